/- isEar, and EarsOf of both. -/
import Derived.Test.YtjkcnepcppljpaaEA
import Derived.Test.YtjkcnepcppljpaaH
namespace Go.VAI
open Go.Proofs
set_option maxRecDepth 100000
set_option maxHeartbeats 8000000

theorem off_eq {l : List P2} {left : List Nat} {k : Nat} {a b c ax ay bx b_y cx cy x xx xy : Int} {j : Nat} (ha : At3 l left (k + left.length - 1) a ⟨ax, ay⟩) (hbb : At3 l left k b ⟨bx, b_y⟩) (hc : At3 l left (k + 1) c ⟨cx, cy⟩) (hx : At3 l left j x ⟨xx, xy⟩) :
    offE l left k x.toNat = (decide (x = a) || decide (x = b) || decide (x = c) || !inTriS ⟨ax, ay⟩ ⟨bx, b_y⟩ ⟨cx, cy⟩ ⟨xx, xy⟩) := by
  unfold offE
  rw [ha.val, hbb.val, hc.val, show at0 l x.toNat = ⟨xx, xy⟩ from at0_of hx.get, ← ha.eq, ← hbb.eq, ← hc.eq]
  have e : ∀ y : Int, 0 ≤ y → decide (x.toNat = y.toNat) = decide (x = y) := fun y hy => by
    have := hx.nn
    by_cases e : x = y
    · rw [e]; simp
    · rw [decide_eq_false e, decide_eq_false (by omega)]
  rw [e a ha.nn, e b hbb.nn, e c hc.nn]

theorem c_impl_isEar_1 : Callable Try.prog 52 := ⟨_, Try.func52, rfl, by kernel_rfl⟩
theorem d_impl_isEar_1 {es : List PV} {l : List P2} {left : List Nat} {k j : Nat} {a b c ax ay bx b_y cx cy x xx xy : Int} (hes : es = l.map P2.pv) (ha : At3 l left (k + left.length - 1) a ⟨ax, ay⟩) (hbb : At3 l left k b ⟨bx, b_y⟩) (hc : At3 l left (k + 1) c ⟨cx, cy⟩) (hx : At3 l left j x ⟨xx, xy⟩) (hne : sgn (cross ⟨ax, ay⟩ ⟨bx, b_y⟩ ⟨cx, cy⟩) ≠ 0) : Does Try.prog 52 [i64 x, .pt [i64 a, i64 b, i64 c], .pt [.sl es]] (.pv (bl (!(offE l left k x.toNat)))) [] := by
  refine does_of hT hM Try.func52 rfl (D := []) (by kernel_rfl) rfl rfl rfl (fun A K hA hK => ?_)
  have hoff := off_eq ha hbb hc hx
  rw [← inTri_same _ _ _ _ hne] at hoff
  rw [hoff] at hK
  clear hoff
  cbv
  refine Ar.neq_ hA (fun na => ?_) (fun ea => ?_)
  rotate_left
  · cbv
    exact hK _ _ (by rw [decide_eq_true ea]; rfl) rfl
  rw [decide_eq_false na] at hK
  cbv
  refine Ar.neq_ hA (fun nb => ?_) (fun eb => ?_)
  rotate_left
  · cbv
    exact hK _ _ (by rw [decide_eq_true eb]; rfl) rfl
  rw [decide_eq_false nb] at hK
  cbv
  refine Ar.neq_ hA (fun nc => ?_) (fun ec => ?_)
  rotate_left
  · cbv
    exact hK _ _ (by rw [decide_eq_true ec]; rfl) rfl
  rw [decide_eq_false nc] at hK
  cbv
  repeat' (first
    | (refine Ar.nn_ hA ha.nn ?_; cbv)
    | (refine Ar.nn_ hA hbb.nn ?_; cbv)
    | (refine Ar.nn_ hA hc.nn ?_; cbv)
    | (refine Ar.nn_ hA hx.nn ?_; cbv)
    | (refine Ar.toN_ hA (fun jj hjj => ?_); cbv)
    | (refine Ar.idx_ hA (x := pt ax ay) (ha.es hes (by assumption)) ?_; cbv)
    | (refine Ar.idx_ hA (x := pt bx b_y) (hbb.es hes (by assumption)) ?_; cbv)
    | (refine Ar.idx_ hA (x := pt cx cy) (hc.es hes (by assumption)) ?_; cbv)
    | (refine Ar.idx_ hA (x := pt xx xy) (hx.es hes (by assumption)) ?_; cbv))
  refine Ar.callT hA c_impl_inTriangle (d_impl_inTriangle ha.bnd hbb.bnd hc.bnd hx.bnd) rfl (fun hin => ?_) (fun hin => ?_)
  · cbv
    exact hK _ _ (by rw [hin]; rfl) rfl
  · cbv
    exact hK _ _ (by rw [hin]; rfl) rfl

theorem c_slices_IndexFunc_int_int : Callable Try.prog 65 := ⟨_, Try.func65, rfl, by kernel_rfl⟩
theorem d_slices_IndexFunc_int_int {fs : List PV} {left : List Nat} {q : Nat → Bool} {c1 c2 : List PV} (hfs : fs = left.map nI) (hb : left.length ≤ 12) (hq : ∀ j, j < left.length → ∀ x : Int, 0 ≤ x → x.toNat = cor left j → Does Try.prog 52 [i64 x, .pt c1, .pt c2] (.pv (bl (q x.toNat))) []) : Does Try.prog 65 [.sl fs, .fn 52 [.pt c1, .pt c2]] (.pv (i64 (firstAt q left))) [] := by
  refine does_of hT hM Try.func65 rfl (D := []) (by kernel_rfl) rfl rfl rfl (fun A K hA hK => ?_)
  have hlen : fs.length = left.length := by simp [hfs]
  cbv
  refine Ar.len_ hA (fun n hn hn' => ?_)
  cbv
  refine Ar.loop_ hA (α := Int) (fun i => (n - i).toNat) (fun i => 0 ≤ i ∧ i ≤ n ∧ ∀ p ∈ left.take i.toNat, q p = false) 19 (fun i => [(0, .pv (.sl fs) []), (1, .pv (.fn 52 [.pt c1, .pt c2]) []), (7, .pv (i64 n) []), (8, .pv (i64 i) [])]) (fun _ => []) 0 ⟨rfl, ⟨rfl, rfl, rfl, rfl, trivial⟩, trivial⟩ ⟨by omega, by omega, by simp⟩ ?_
  intro i s f ⟨h1, h2, h3⟩
  cbv
  refine Ar.lss_ hA (fun h => ?_) (fun h => ?_)
  · obtain ⟨x, hx0, hx⟩ := cor_int left i.toNat
    have hil : i.toNat < left.length := by omega
    have hxl : left[i.toNat]? = some x.toNat := by rw [cor_lt hil, hx]
    cbv
    refine Ar.nn_ hA h1 ?_
    cbv
    refine Ar.toN_ hA (fun j hj => ?_)
    cbv
    refine Ar.idx_ hA (x := i64 x) (nI_get hfs (by omega) (by rw [hj, Nat.mod_eq_of_lt hil]) ⟨hx0, hx⟩) ?_
    cbv
    refine Ar.callT hA c_impl_isEar_1 (hq i.toNat hil x hx0 hx) rfl (fun hb => ?_) (fun hb => ?_)
    · cbv
      refine hK _ _ ?_ rfl
      rw [firstAt_some hxl hb h3]
      congr 3; omega
    · cbv
      refine Ar.add_ hA (by omega) (fun k hk => ?_)
      cbv
      refine ⟨k, by omega, ⟨by omega, by omega, ?_⟩, rfl, ⟨rfl, rfl, rfl, rfl, trivial⟩, trivial⟩
      rw [show k.toNat = i.toNat + 1 by omega, List.take_add_one, hxl]
      intro q' hq'
      simp only [Option.toList_some, List.mem_append, List.mem_singleton] at hq'
      rcases hq' with hq' | rfl
      · exact h3 q' hq'
      · exact hb
  · cbv
    refine hK _ _ ?_ rfl
    rw [List.take_of_length_le (by omega)] at h3
    rw [firstAt_none h3]

theorem c_slices_ContainsFunc_int_int : Callable Try.prog 51 := ⟨_, Try.func51, rfl, by kernel_rfl⟩
theorem d_slices_ContainsFunc_int_int {fs : List PV} {left : List Nat} {q : Nat → Bool} {c1 c2 : List PV} (hfs : fs = left.map nI) (hb : left.length ≤ 12) (hq : ∀ j, j < left.length → ∀ x : Int, 0 ≤ x → x.toNat = cor left j → Does Try.prog 52 [i64 x, .pt c1, .pt c2] (.pv (bl (q x.toNat))) []) : Does Try.prog 51 [.sl fs, .fn 52 [.pt c1, .pt c2]] (.pv (bl (left.any q))) [] := by
  refine does_of hT hM Try.func51 rfl (D := []) (by kernel_rfl) rfl rfl rfl (fun A K hA hK => ?_)
  cbv
  refine Ar.callI hA c_slices_IndexFunc_int_int (d_slices_IndexFunc_int_int hfs hb hq) rfl (fun r hr => ?_)
  cbv
  have := firstAt_any (q := q) (l := left)
  refine Ar.geq_ hA (fun h => ?_) (fun h => ?_)
  · cbv
    exact hK _ _ (by rw [← this]; simp; omega) rfl
  · cbv
    exact hK _ _ (by rw [← this]; simp; omega) rfl

theorem at3_of {l : List P2} {left : List Nat} (hok : ∀ p ∈ l, p.ok = true) (h0 : 0 < left.length) (hlt : ∀ i ∈ left, i < l.length) {k : Nat} {x : Int} (hx0 : 0 ≤ x) (hx : x.toNat = cor left k) : ∃ px py, At3 l left k x ⟨px, py⟩ := by
  obtain ⟨a, px, py, h⟩ := at3 hok h0 hlt k
  have := h.nn
  have := h.eq
  obtain rfl : a = x := by omega
  exact ⟨px, py, h⟩
theorem not_off {l : List P2} {left : List Nat} {k : Nat} : (!left.any fun x => !offE l left k x) = left.all (offE l left k) := by
  rw [List.all_eq_not_any_not]

theorem c_impl_isEar : Callable Try.prog 33 := ⟨_, Try.func33, rfl, by kernel_rfl⟩
theorem d_impl_isEar {es fs : List PV} {l : List P2} {left : List Nat} {i turn a b c ax ay bx b_y cx cy : Int} (hes : es = l.map P2.pv) (hfs : fs = left.map nI) (hok : ∀ p ∈ l, p.ok = true) (h0 : 0 < left.length) (hb : left.length ≤ 12) (hlt : ∀ i ∈ left, i < l.length) (hi : 0 ≤ i ∧ i.toNat < left.length) (ht : turn ≠ 0) (ha : At3 l left (i.toNat + left.length - 1) a ⟨ax, ay⟩) (hbb : At3 l left i.toNat b ⟨bx, b_y⟩) (hc : At3 l left (i.toNat + 1) c ⟨cx, cy⟩) : Does Try.prog 33 [.sl es, .sl fs, i64 i, i64 turn] (.pv (bl (earF l left turn i.toNat))) [] := by
  refine does_of hT hM Try.func33 rfl (D := []) (by kernel_rfl) rfl rfl rfl (fun A K hA hK => ?_)
  have hno := earF_no (l := l) (left := left) (s := turn) (k := i.toNat)
  have hyes := earF_all (l := l) (left := left) (s := turn) (k := i.toNat)
  rw [ha.val, hbb.val, hc.val] at hno hyes
  obtain ⟨B, hB⟩ : ∃ B, B = earF l left turn i.toNat := ⟨_, rfl⟩
  rw [← hB] at hno hyes hK
  clear hB
  cbv
  refine Ar.call_ hA c_impl_triAt (d_impl_triAt (a := a) (b := b) (c := c) hfs h0 hb hi ⟨ha.nn, ha.eq⟩ ⟨hbb.nn, hbb.eq⟩ ⟨hc.nn, hc.eq⟩) rfl ?_
  cbv
  repeat' (first
    | (refine Ar.nn_ hA ha.nn ?_; cbv)
    | (refine Ar.nn_ hA hbb.nn ?_; cbv)
    | (refine Ar.nn_ hA hc.nn ?_; cbv)
    | (refine Ar.toN_ hA (fun jj hjj => ?_); cbv)
    | (refine Ar.idx_ hA (x := pt ax ay) (ha.es hes (by assumption)) ?_; cbv)
    | (refine Ar.idx_ hA (x := pt bx b_y) (hbb.es hes (by assumption)) ?_; cbv)
    | (refine Ar.idx_ hA (x := pt cx cy) (hc.es hes (by assumption)) ?_; cbv))
  refine Ar.callI hA c_impl_orient (d_impl_orient ha.bnd hbb.bnd hc.bnd) rfl (fun g hg => ?_)
  cbv
  refine Ar.neq_ hA (fun hne => ?_) (fun heq => ?_)
  · cbv
    exact hK _ _ (by rw [hno (by rw [← hg]; exact hne)]) rfl
  have hyes := hyes (by rw [← hg]; exact heq)
  have hnz : sgn (cross ⟨ax, ay⟩ ⟨bx, b_y⟩ ⟨cx, cy⟩) ≠ 0 := by rw [← hg, heq]; exact ht
  rw [← not_off] at hyes
  cbv
  refine Ar.callT hA c_slices_ContainsFunc_int_int (d_slices_ContainsFunc_int_int (q := fun x => !offE l left i.toNat x) (c1 := [i64 a, i64 b, i64 c]) (c2 := [.sl es]) hfs hb (fun j _ x hx0 hx => by
    obtain ⟨xx, xy, hx3⟩ := at3_of hok h0 hlt hx0 hx
    exact d_impl_isEar_1 hes ha hbb hc hx3 hnz)) rfl (fun hin => ?_) (fun hin => ?_)
  · cbv
    refine Ar.notT_ hA ?_
    cbv
    exact hK _ _ (by rw [hyes, hin]; rfl) rfl
  · cbv
    refine Ar.notF_ hA ?_
    cbv
    exact hK _ _ (by rw [hyes, hin]; rfl) rfl

end Go.VAI
