/- slices.Compact on points. -/
import Derived.Test.YtidbgfknaopkkaaP
import Derived.Test.YtidbgfknaopkkaaT
import Derived.Test.YtidbgfknaopkkaaY
namespace Go.VAI
open Go.Proofs
set_option maxRecDepth 100000
set_option maxHeartbeats 8000000

/-- Of points side by side that are equal one alone. -/
def compF : List P2 → List P2
  | [] => []
  | [a] => [a]
  | a :: b :: l => if a = b then compF (b :: l) else a :: compF (b :: l)
theorem compF_two (m : List P2) (x y : P2) : compF (m ++ [x, y]) = if y = x then compF (m ++ [x]) else compF (m ++ [x]) ++ [y] := by
  induction m with
  | nil =>
    show compF [x, y] = _
    simp only [compF, List.nil_append]
    by_cases h : y = x
    · rw [if_pos h, if_pos h.symm, h]
    · rw [if_neg h, if_neg (fun e => h e.symm)]; rfl
  | cons a m ih =>
    cases m with
    | nil =>
      simp only [List.cons_append, List.nil_append] at ih ⊢
      rw [show compF [a, x, y] = if a = x then compF [x, y] else a :: compF [x, y] from rfl, ih, show compF [a, x] = if a = x then compF [x] else a :: compF [x] from rfl]
      by_cases h1 : a = x <;> by_cases h2 : y = x <;> simp [h1, h2]
    | cons b m =>
      simp only [List.cons_append] at ih ⊢
      rw [show compF (a :: b :: (m ++ [x, y])) = if a = b then compF (b :: (m ++ [x, y])) else a :: compF (b :: (m ++ [x, y])) from rfl, ih,
        show compF (a :: b :: (m ++ [x])) = if a = b then compF (b :: (m ++ [x])) else a :: compF (b :: (m ++ [x])) from rfl]
      by_cases h1 : a = b <;> by_cases h2 : y = x <;> simp [h1, h2]
theorem compF_take {l : List P2} {i : Nat} {x y : P2} (h1 : l[i]? = some x) (h2 : l[i + 1]? = some y) : compF (l.take (i + 2)) = if y = x then compF (l.take (i + 1)) else compF (l.take (i + 1)) ++ [y] := by
  have e1 : l.take (i + 1) = l.take i ++ [x] := by rw [List.take_add_one, h1]; rfl
  have e2 : l.take (i + 2) = l.take i ++ [x, y] := by rw [List.take_add_one, h2, e1]; simp
  rw [e2, e1, compF_two]
theorem compF_mem {l : List P2} : ∀ x, x ∈ compF l ↔ x ∈ l := by
  induction l with
  | nil => intro x; rfl
  | cons a l ih =>
    intro x
    cases l with
    | nil => rfl
    | cons b l =>
      rw [show compF (a :: b :: l) = if a = b then compF (b :: l) else a :: compF (b :: l) from rfl]
      by_cases h : a = b
      · rw [if_pos h, ih, h]; simp
      · rw [if_neg h, List.mem_cons, ih, List.mem_cons (a := x) (b := a)]
theorem compF_len (l : List P2) : (compF l).length ≤ l.length := by
  induction l with
  | nil => exact Nat.le_refl _
  | cons a l ih =>
    cases l with
    | nil => exact Nat.le_refl _
    | cons b l =>
      rw [show compF (a :: b :: l) = if a = b then compF (b :: l) else a :: compF (b :: l) from rfl]
      split
      · simp only [List.length_cons] at ih ⊢; omega
      · simp only [List.length_cons] at ih ⊢; omega
theorem compF_sorted {l : List P2} (h : l.Pairwise fun x y => lexLess y x = false) : (compF l).Pairwise fun x y => lexLess x y = true := by
  induction l with
  | nil => exact .nil
  | cons a l ih =>
    cases l with
    | nil => exact List.pairwise_singleton _ _
    | cons b l =>
      rw [show compF (a :: b :: l) = if a = b then compF (b :: l) else a :: compF (b :: l) from rfl]
      rw [List.pairwise_cons] at h
      have ih := ih h.2
      split
      · exact ih
      · rename_i hab
        rw [List.pairwise_cons]
        refine ⟨fun x hx => ?_, ih⟩
        rw [compF_mem] at hx
        have h1 := h.1 b (by simp)
        have h2 := h.1 x hx
        have hx2 : x = b ∨ x ∈ l := by simpa using hx
        rw [List.pairwise_cons] at h
        have h3 : lexLess x b = false := by
          rcases hx2 with rfl | hx2
          · rw [lex_not]; omega
          · exact h.2.1 x hx2
        rw [lex_not] at h1 h2 h3
        rw [lex_iff]
        have hne : ¬(a.x = b.x ∧ a.y = b.y) := fun e => hab (P2.eq_of e.1 e.2)
        omega

def z2 : P2 := ⟨0, 0⟩
def compO (l : List P2) : List P2 := compF l ++ List.replicate (l.length - (compF l).length) z2

theorem compO_same {l : List P2} (h : compF l = l) : compO l = l := by unfold compO; rw [h]; simp

theorem Ar.nePt_ {P : Program} {A : Ar} (hA : stdA P = A) {a b c d : Int} {K : Bool → Prop} (h1 : ¬(a = b ∧ c = d) → K true) (h2 : a = b ∧ c = d → K false) : A.bool (A.bnot (A.band (A.cmp .eql a b) (A.band (A.cmp .eql c d) true))) K := by
  subst hA
  show K (!((a == b) && ((c == d) && true)))
  by_cases h : a = b ∧ c = d
  · rw [beq_iff_eq.2 h.1, beq_iff_eq.2 h.2]; exact h2 h
  · have : ((a == b) && ((c == d) && true)) = false := by
      rw [← Bool.not_eq_true]; simpa using h
    rw [this]; exact h1 h
theorem Ar.splRep_ {P : Program} {A : Ar} (hA : stdA P = A) {l : List PV} {o m : Nat} {z : PV} {K : List PV → Prop} (h : ∀ r, r = l.take o ++ List.replicate m z ++ l.drop (o + m) → K r) : A.row (A.spl l o (A.rep m z)) K := by
  subst hA
  refine h _ ?_
  show l.take o ++ List.replicate m z ++ l.drop (o + (List.replicate m z).length) = _
  rw [List.length_replicate]

theorem step_put {C l : List P2} {x : P2} (h : C.length < l.length) : (C ++ l.drop C.length).set C.length x = (C ++ [x]) ++ l.drop (C ++ [x]).length := by
  rw [List.set_append_right _ _ (by omega), Nat.sub_self, List.drop_eq_getElem_cons h]
  simp [List.set]

theorem c_slices_Compact_impl_Pt_impl_Pt : Callable Try.prog 104 := ⟨_, Try.func104, rfl, by kernel_rfl⟩
theorem d_slices_Compact_impl_Pt_impl_Pt {es : List PV} {l : List P2} (hes : es = l.map P2.pv) (hb : l.length ≤ 1048576) : Does Try.prog 104 [.sl es] (.vw 0 0 (compF l).length) [.sl ((compO l).map P2.pv)] := by
  refine does_of hT hM Try.func104 rfl (D := []) (by kernel_rfl) rfl rfl rfl (fun A K hA hK => ?_)
  have hlen : es.length = l.length := by simp [hes]
  obtain ⟨n, hn0, hn⟩ : ∃ n : Int, 0 ≤ n ∧ n.toNat = l.length := ⟨(l.length : Int), by omega, by omega⟩
  have hsame : compF l = l → ∀ k, k = l.length → K (.vw 0 0 k) [.sl es] := fun h k hk => hK _ _ (by rw [hk, h]) (by rw [compO_same h, hes])
  have hyes : ∀ k r, k = (compF l).length → r = (compO l).map P2.pv → K (.vw 0 0 k) [.sl r] := fun k r h1 h2 => hK _ _ (by rw [h1]) (by rw [h2])
  clear hK
  cbv
  refine Ar.len_ hA (fun m hm hm' => ?_)
  obtain rfl : n = m := by omega
  cbv
  refine Ar.lss_ hA (fun g => ?_) (fun g => ?_)
  · cbv
    refine Ar.same_ hA rfl ?_
    cbv
    refine hsame ?_ _ (by subst hA; exact hlen)
    match l, hn with
    | [], _ => rfl
    | [a], _ => rfl
    | a :: b :: l, hn => simp only [List.length_cons] at hn; omega
  cbv
  refine Ar.loop_ hA (α := Int) (fun i => (n - i).toNat) (fun i => 1 ≤ i ∧ i ≤ n ∧ compF (l.take i.toNat) = l.take i.toNat) 61 (fun i => [(0, .own 0 none), (3, .pv (i64 i) [])]) (fun i => [(0, some (.row es 2 .free true))]) 1 ⟨rfl, ⟨rfl, rfl, trivial⟩, rfl, trivial⟩ ⟨by omega, by omega, by
    match l, hn with
    | [], hn => simp at hn; omega
    | a :: l, hn => rfl⟩ ?_
  intro i s f ⟨h1, h2, h3⟩
  cbv
  refine Ar.len_ hA (fun m hm hm' => ?_)
  obtain rfl : n = m := by omega
  cbv
  refine Ar.lss_ hA (fun h => ?_) (fun h => ?_)
  · obtain ⟨⟨px, py⟩, hp⟩ : ∃ p, l[i.toNat - 1]? = some p := ⟨l[i.toNat - 1]'(by omega), List.getElem?_eq_getElem _⟩
    obtain ⟨⟨qx, qy⟩, hq⟩ : ∃ p, l[i.toNat]? = some p := ⟨l[i.toNat]'(by omega), List.getElem?_eq_getElem _⟩
    have key := compF_take hp (show l[i.toNat - 1 + 1]? = some ⟨qx, qy⟩ by rw [show i.toNat - 1 + 1 = i.toNat by omega]; exact hq)
    rw [show i.toNat - 1 + 2 = i.toNat + 1 by omega, show i.toNat - 1 + 1 = i.toNat by omega, h3] at key
    have eq1 : es[i.toNat]? = some (pt qx qy) := by rw [hes, List.getElem?_map, hq]; rfl
    have eq2 : es[i.toNat - 1]? = some (pt px py) := by rw [hes, List.getElem?_map, hp]; rfl
    have tk : l.take (i.toNat + 1) = l.take i.toNat ++ [⟨qx, qy⟩] := by rw [List.take_add_one, hq]; rfl
    cbv
    repeat' (first
      | apply And.intro
      | (refine Ar.nn_ hA (by omega) ?_; cbv)
      | (refine Ar.sub_ hA (by omega) (fun i1 hi1 => ?_); cbv)
      | (refine Ar.toN_ hA (fun j hj => ?_); cbv)
      | (refine Ar.idx_ hA (x := pt qx qy) (by rw [show j = i.toNat by omega]; exact eq1) ?_; cbv)
      | (refine Ar.idx_ hA (x := pt px py) (by rw [show j = i.toNat - 1 by omega]; exact eq2) ?_; cbv))
    all_goals
      refine Ar.eqPt_ hA (fun he => ?_) (fun he => ?_)
      rotate_left
      · cbv
        refine Ar.add_ hA (by omega) (fun i' hi' => ?_)
        cbv
        refine ⟨i', (by show (n - i').toNat < (n - i).toNat; omega), ⟨by omega, by omega, ?_⟩, rfl, ⟨rfl, rfl, trivial⟩, rfl, trivial⟩
        rw [if_neg (fun e => he ⟨congrArg P2.x e, congrArg P2.y e⟩)] at key
        rw [show i'.toNat = i.toNat + 1 by omega, key, tk]
      rw [if_pos (by rw [he.1, he.2])] at key
      cbv
      refine Ar.lenN_ hA (fun n1 hn1 => ?_)
      cbv
      refine Ar.nn_ hA (by omega) ?_
      cbv
      refine Ar.toN_ hA (fun jo hjo => ?_)
      cbv
      refine Ar.rng_ hA (by omega) ?_
      cbv
      refine Ar.subN_ hA (fun jm hjm => ?_)
      cbv
      refine Ar.loop_ hA (α := Int × Int × List PV) (fun x => (n - x.1).toNat) (fun (q, k, r) => 1 ≤ q ∧ i + q ≤ n ∧ 0 ≤ k ∧ k < i + q ∧ k.toNat = (compF (l.take (i.toNat + q.toNat))).length ∧ r = (compF (l.take (i.toNat + q.toNat)) ++ l.drop k.toNat).map P2.pv) 61 (fun (q, k, r) => [(0, .own 0 none), (3, .pv (i64 k) []), (4, .own 0 (some (jo, jm))), (5, .pv (i64 q) [])]) (fun (q, k, r) => [(0, some (.row r 2 .free true))]) (1, i, es) (by refine ⟨?_, ⟨?_, ?_, ?_, ?_, trivial⟩, ?_, trivial⟩ <;> cbv) ⟨by omega, by omega, by omega, by omega, by
        show i.toNat = (compF (l.take (i.toNat + 1))).length
        rw [key]; simp; omega, by
        show es = (compF (l.take (i.toNat + 1)) ++ l.drop i.toNat).map P2.pv
        rw [key, List.take_append_drop, hes]⟩ ?_
      intro ⟨q, k, r⟩ s f ⟨k1, k2, k3, k4, k5, k6⟩
      have hrl : r.length = l.length := by
        rw [k6]; simp; omega
      have hcl := compF_len l
      cbv
      refine Ar.ofN_ hA (fun m2 hm2 hm2' => ?_)
      cbv
      refine Ar.lss_ hA (fun h => ?_) (fun h => ?_)
      · obtain ⟨⟨ux, uy⟩, hu⟩ : ∃ p, l[i.toNat + q.toNat - 1]? = some p := ⟨l[i.toNat + q.toNat - 1]'(by omega), List.getElem?_eq_getElem _⟩
        obtain ⟨⟨vx, vy⟩, hv⟩ : ∃ p, l[i.toNat + q.toNat]? = some p := ⟨l[i.toNat + q.toNat]'(by omega), List.getElem?_eq_getElem _⟩
        have key2 := compF_take hu (show l[i.toNat + q.toNat - 1 + 1]? = some ⟨vx, vy⟩ by rw [show i.toNat + q.toNat - 1 + 1 = i.toNat + q.toNat by omega]; exact hv)
        rw [show i.toNat + q.toNat - 1 + 2 = i.toNat + q.toNat + 1 by omega, show i.toNat + q.toNat - 1 + 1 = i.toNat + q.toNat by omega] at key2
        generalize compF (l.take (i.toNat + q.toNat)) = C at k5 k6 key2
        have hget : ∀ j, k.toNat ≤ j → r[j]? = (l[j]?).map P2.pv := by
          intro j hj
          rw [k6, List.getElem?_map, List.getElem?_append_right (by omega), List.getElem?_drop, show k.toNat + (j - C.length) = j by omega]
        have hru : r[i.toNat + q.toNat - 1]? = some (pt ux uy) := by rw [hget _ (by omega), hu]; rfl
        have hrv : r[i.toNat + q.toNat]? = some (pt vx vy) := by rw [hget _ (by omega), hv]; rfl
        have hsu : ((r.drop jo).take jm)[q.toNat - 1]? = some (pt ux uy) := by rw [List.getElem?_take_of_lt (by omega), List.getElem?_drop, show jo + (q.toNat - 1) = i.toNat + q.toNat - 1 by omega]; exact hru
        have hsv : ((r.drop jo).take jm)[q.toNat]? = some (pt vx vy) := by rw [List.getElem?_take_of_lt (by omega), List.getElem?_drop, show jo + q.toNat = i.toNat + q.toNat by omega]; exact hrv
        obtain ⟨⟨wx, wy⟩, hw⟩ : ∃ p, l[k.toNat]? = some p := ⟨l[k.toNat]'(by omega), List.getElem?_eq_getElem _⟩
        have hrw : r[k.toNat]? = some (pt wx wy) := by rw [hget _ (by omega), hw]; rfl
        cbv
        repeat' (first
          | apply And.intro
          | (refine Ar.nn_ hA (by omega) ?_; cbv)
          | (refine Ar.sub_ hA (by omega) (fun q1 hq1 => ?_); cbv)
          | (refine Ar.toN_ hA (fun j2 hj2 => ?_); cbv)
          | (refine Ar.idxS_ hA (x := pt vx vy) (by rw [show j2 = q.toNat by omega]; exact hsv) ?_; cbv)
          | (refine Ar.idxS_ hA (x := pt ux uy) (by rw [show j2 = q.toNat - 1 by omega]; exact hsu) ?_; cbv)
          | (refine Ar.addN_ hA (fun j3 hj3 => ?_); cbv)
          | (refine Ar.idx_ hA (x := pt vx vy) (by rw [show j3 = i.toNat + q.toNat by omega]; exact hrv) ?_; cbv)
          | (refine Ar.idx_ hA (x := pt ux uy) (by rw [show j3 = i.toNat + q.toNat - 1 by omega]; exact hru) ?_; cbv))
        all_goals
          refine Ar.nePt_ hA (fun he2 => ?_) (fun he2 => ?_)
          · rw [if_neg (fun e => he2 ⟨congrArg P2.x e, congrArg P2.y e⟩)] at key2
            cbv
            repeat' (first
              | (refine Ar.nn_ hA (by omega) ?_; cbv)
              | (refine Ar.toN_ hA (fun j4 hj4 => ?_); cbv)
              | (refine Ar.idxS_ hA (x := pt vx vy) (by rw [show j4 = q.toNat by omega]; exact hsv) ?_; cbv)
              | (refine Ar.addN_ hA (fun j5 hj5 => ?_); cbv)
              | (refine Ar.idx_ hA (x := pt wx wy) (by rw [show j4 = k.toNat by omega]; exact hrw) ?_; cbv)
              | (refine Ar.idx_ hA (x := pt vx vy) (by rw [show j5 = i.toNat + q.toNat by omega]; exact hrv) ?_; cbv)
              | (refine Ar.set_ hA (fun r1 hr1 => ?_); cbv))
            refine Ar.add_ hA (by omega) (fun k' hk' => ?_)
            cbv
            refine Ar.add_ hA (by omega) (fun q' hq' => ?_)
            cbv
            refine ⟨(q', k', r1), (by show (n - q').toNat < (n - q).toNat; omega), ⟨by omega, by omega, by omega, by omega, ?_, ?_⟩, (by refine ⟨?_, ⟨?_, ?_, ?_, ?_, trivial⟩, ?_, trivial⟩ <;> cbv)⟩
            · rw [show i.toNat + q'.toNat = i.toNat + q.toNat + 1 by omega, key2, List.length_append, ← k5]; simp; omega
            · have := step_put (C := C) (l := l) (x := ⟨vx, vy⟩) (by omega)
              rw [show i.toNat + q'.toNat = i.toNat + q.toNat + 1 by omega, key2, hr1, k6, show j4 = C.length by omega, show k.toNat = C.length by omega]
              rw [show k'.toNat = (C ++ [(⟨vx, vy⟩ : P2)]).length by simp; omega, ← this, List.map_set]; rfl
          · rw [if_pos (by rw [he2.1, he2.2])] at key2
            cbv
            refine Ar.add_ hA (by omega) (fun q' hq' => ?_)
            cbv
            refine ⟨(q', k, r), (by show (n - q').toNat < (n - q).toNat; omega), ⟨by omega, by omega, by omega, by omega, ?_, ?_⟩, (by refine ⟨?_, ⟨?_, ?_, ?_, ?_, trivial⟩, ?_, trivial⟩ <;> cbv)⟩
            · rw [show i.toNat + q'.toNat = i.toNat + q.toNat + 1 by omega, key2, ← k5]
            · rw [show i.toNat + q'.toNat = i.toNat + q.toNat + 1 by omega, key2, k6]
      · rw [show i.toNat + q.toNat = l.length by omega, List.take_of_length_le (Nat.le_refl _)] at k5 k6
        cbv
        repeat' (first
          | (refine Ar.lenN_ hA (fun j2 hj2 => ?_); cbv)
          | (refine Ar.nn_ hA (by omega) ?_; cbv)
          | (refine Ar.toN_ hA (fun j3 hj3 => ?_); cbv)
          | (refine Ar.rng_ hA (by omega) ?_; cbv)
          | (refine Ar.subN_ hA (fun j4 hj4 => ?_); cbv)
          | (refine Ar.splRep_ hA (fun r1 hr1 => ?_); have hr1l : r1.length = l.length := (by rw [hr1]; simp only [List.length_append, List.length_take, List.length_drop, List.length_replicate]; omega); cbv))
        refine Ar.same_ hA (by omega) ?_
        cbv
        refine hyes _ _ (by omega) ?_
        rename_i ja hja jb hjb jc hjc
        rw [hr1, k6, ← List.map_take, ← List.map_drop, List.take_append_of_le_length (by omega), List.take_of_length_le (by omega), show jc = l.length - (compF l).length by omega, List.drop_eq_nil_of_le (by simp; omega)]
        unfold compO
        rw [List.map_append, List.map_replicate, List.map_nil, List.append_nil]; rfl
  · have hii : i = n := by omega
    rw [hii, hn, List.take_of_length_le (Nat.le_refl _)] at h3
    cbv
    refine Ar.same_ hA rfl ?_
    cbv
    exact hsame h3 _ (by subst hA; exact hlen)

end Go.VAI
