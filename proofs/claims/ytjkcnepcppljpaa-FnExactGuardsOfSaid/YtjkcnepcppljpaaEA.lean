/- EarsOf. -/
import Derived.Test.YtjkcnepcppljpaaGB
namespace Go.VAI
open Go.Proofs
set_option maxRecDepth 100000
set_option maxHeartbeats 8000000

def nI (k : Nat) : PV := i64 (k : Int)
theorem nI_get {es : List PV} {left : List Nat} (hes : es = left.map nI) {x j : Nat} {a : Int} (h0 : 0 < left.length) (hj : j = x % left.length) (ha : 0 ≤ a ∧ a.toNat = cor left x) : es[j]? = some (i64 a) := by
  have hx := Nat.mod_lt x h0
  rw [hes, List.getElem?_map, hj, cor_lt hx, cor_mod]
  show some (i64 (cor left x : Int)) = _
  rw [← ha.2, Int.toNat_of_nonneg ha.1]
theorem cor_int (left : List Nat) (x : Nat) : ∃ a : Int, 0 ≤ a ∧ a.toNat = cor left x := ⟨(cor left x : Int), by omega, by omega⟩
theorem rem_nat {x n r : Int} {m : Nat} (hx : 0 ≤ x) (hn : n.toNat = m) (h0 : 0 < n) (hr : r = x % n) : 0 ≤ r ∧ r.toNat = x.toNat % m := by
  have h1 := Int.emod_nonneg x (show n ≠ 0 by omega)
  refine ⟨by omega, ?_⟩
  rw [hr, ← hn, Int.toNat_emod hx (by omega)]

theorem c_spec_l11Around : Callable Try.prog 43 := ⟨_, Try.func43, rfl, by kernel_rfl⟩
theorem d_spec_l11Around {es : List PV} {left : List Nat} {i a c : Int} (hes : es = left.map nI) (h0 : 0 < left.length) (hb : left.length ≤ 12) (hi : 0 ≤ i ∧ i ≤ 1000) (ha : 0 ≤ a ∧ a.toNat = cor left (i.toNat + left.length - 1)) (hc : 0 ≤ c ∧ c.toNat = cor left (i.toNat + 1)) : Does Try.prog 43 [.sl es, i64 i] (.tup [.pv (i64 a), .pv (i64 c)]) [] := by
  refine does_of hT hM Try.func43 rfl (D := []) (by kernel_rfl) rfl rfl rfl (fun A K hA hK => ?_)
  have hlen : es.length = left.length := by simp [hes]
  cbv
  refine Ar.len_ hA (fun n hn hn' => ?_)
  cbv
  refine Ar.add_ hA (by omega) (fun i1 hi1 => ?_)
  cbv
  refine Ar.sub_ hA (by omega) (fun i2 hi2 => ?_)
  cbv
  refine Ar.nz_ hA (by omega) ?_
  cbv
  refine Ar.rem_ hA (by omega) (fun r hr => ?_)
  have hr' := rem_nat (m := left.length) (by omega) (by omega) (by omega) hr
  cbv
  refine Ar.nn_ hA (by omega) ?_
  cbv
  refine Ar.toN_ hA (fun j hj => ?_)
  cbv
  refine Ar.idx_ hA (x := i64 a) (nI_get hes h0 (by rw [hj, hr'.2, show i2.toNat = i.toNat + left.length - 1 by omega]) ha) ?_
  cbv
  refine Ar.add_ hA (by omega) (fun k1 hk1 => ?_)
  cbv
  refine Ar.nz_ hA (by omega) ?_
  cbv
  refine Ar.rem_ hA (by omega) (fun q hq => ?_)
  have hq' := rem_nat (m := left.length) (by omega) (by omega) (by omega) hq
  cbv
  refine Ar.nn_ hA (by omega) ?_
  cbv
  refine Ar.toN_ hA (fun j2 hj2 => ?_)
  cbv
  refine Ar.idx_ hA (x := i64 c) (nI_get hes h0 (by rw [hj2, hq'.2, show k1.toNat = i.toNat + 1 by omega]) hc) ?_
  cbv
  exact hK _ _ rfl rfl

theorem c_impl_triAt : Callable Try.prog 49 := ⟨_, Try.func49, rfl, by kernel_rfl⟩
theorem d_impl_triAt {es : List PV} {left : List Nat} {i a b c : Int} (hes : es = left.map nI) (h0 : 0 < left.length) (hb : left.length ≤ 12) (hi : 0 ≤ i ∧ i.toNat < left.length) (ha : 0 ≤ a ∧ a.toNat = cor left (i.toNat + left.length - 1)) (hbb : 0 ≤ b ∧ b.toNat = cor left i.toNat) (hc : 0 ≤ c ∧ c.toNat = cor left (i.toNat + 1)) : Does Try.prog 49 [.sl es, i64 i] (.ag [.pv (i64 a), .pv (i64 b), .pv (i64 c)]) [] := by
  refine does_of hT hM Try.func49 rfl (D := []) (by kernel_rfl) rfl rfl rfl (fun A K hA hK => ?_)
  have hlen : es.length = left.length := by simp [hes]
  cbv
  refine Ar.len_ hA (fun n hn hn' => ?_)
  cbv
  refine Ar.add_ hA (by omega) (fun i1 hi1 => ?_)
  cbv
  refine Ar.sub_ hA (by omega) (fun i2 hi2 => ?_)
  cbv
  refine Ar.nz_ hA (by omega) ?_
  cbv
  refine Ar.rem_ hA (by omega) (fun r hr => ?_)
  have hr' := rem_nat (m := left.length) (by omega) (by omega) (by omega) hr
  cbv
  refine Ar.nn_ hA (by omega) ?_
  cbv
  refine Ar.toN_ hA (fun j hj => ?_)
  cbv
  refine Ar.idx_ hA (x := i64 a) (nI_get hes h0 (by rw [hj, hr'.2, show i2.toNat = i.toNat + left.length - 1 by omega]) ha) ?_
  cbv
  refine Ar.nn_ hA (by omega) ?_
  cbv
  refine Ar.toN_ hA (fun j1 hj1 => ?_)
  cbv
  refine Ar.idx_ hA (x := i64 b) (nI_get hes h0 (by rw [hj1, Nat.mod_eq_of_lt hi.2]) hbb) ?_
  cbv
  refine Ar.add_ hA (by omega) (fun k1 hk1 => ?_)
  cbv
  refine Ar.nz_ hA (by omega) ?_
  cbv
  refine Ar.rem_ hA (by omega) (fun q hq => ?_)
  have hq' := rem_nat (m := left.length) (by omega) (by omega) (by omega) hq
  cbv
  refine Ar.nn_ hA (by omega) ?_
  cbv
  refine Ar.toN_ hA (fun j2 hj2 => ?_)
  cbv
  refine Ar.idx_ hA (x := i64 c) (nI_get hes h0 (by rw [hj2, hq'.2, show k1.toNat = i.toNat + 1 by omega]) hc) ?_
  cbv
  exact hK _ _ rfl rfl

/-- Corner x of those left, as a whole number and as a point. -/
structure At3 (l : List P2) (left : List Nat) (k : Nat) (a : Int) (p : P2) : Prop where
  nn : 0 ≤ a
  eq : a.toNat = cor left k
  get : l[a.toNat]? = some p
  val : poly l left k = p
  bnd : -1000 ≤ p.x ∧ p.x ≤ 1000 ∧ -1000 ≤ p.y ∧ p.y ≤ 1000

theorem at3 {l : List P2} {left : List Nat} (hok : ∀ p ∈ l, p.ok = true) (h0 : 0 < left.length) (hlt : ∀ i ∈ left, i < l.length) (k : Nat) : ∃ a px py, At3 l left k a ⟨px, py⟩ := by
  have h := hlt _ (cor_mem h0 k)
  obtain ⟨⟨px, py⟩, hp⟩ : ∃ p, l[cor left k]? = some p := ⟨l[cor left k], List.getElem?_eq_getElem h⟩
  refine ⟨(cor left k : Int), px, py, by omega, by omega, by rw [Int.toNat_natCast]; exact hp, ?_, ok_bounds hok hp⟩
  unfold poly; exact at0_of hp

theorem At3.es {l : List P2} {left : List Nat} {k : Nat} {a px py : Int} (h : At3 l left k a ⟨px, py⟩) {es : List PV} (hes : es = l.map P2.pv) {j : Nat} (hj : j = a.toNat) : es[j]? = some (pt px py) := by
  rw [hes, List.getElem?_map, hj, h.get]; rfl

theorem earF_no {l : List P2} {left : List Nat} {s : Int} {k : Nat} (h : sgn (cross (poly l left (k + left.length - 1)) (poly l left k) (poly l left (k + 1))) ≠ s) : earF l left s k = false := by
  unfold earF; rw [decide_eq_false h, Bool.false_and]
def offE (l : List P2) (left : List Nat) (k : Nat) (i : Nat) : Bool := decide (i = cor left (k + left.length - 1)) || decide (i = cor left k) || decide (i = cor left (k + 1)) || !inTriS (poly l left (k + left.length - 1)) (poly l left k) (poly l left (k + 1)) (at0 l i)
theorem earF_all {l : List P2} {left : List Nat} {s : Int} {k : Nat} (h : sgn (cross (poly l left (k + left.length - 1)) (poly l left k) (poly l left (k + 1))) = s) : earF l left s k = left.all (offE l left k) := by
  unfold earF; rw [decide_eq_true h, Bool.true_and]; rfl

theorem c_spec_l11Ear : Callable Try.prog 27 := ⟨_, Try.func27, rfl, by kernel_rfl⟩
theorem d_spec_l11Ear {es fs : List PV} {l : List P2} {left : List Nat} {i turn a b c ax ay bx b_y cx cy : Int} (hes : es = l.map P2.pv) (hfs : fs = left.map nI) (hok : ∀ p ∈ l, p.ok = true) (h0 : 0 < left.length) (hb : left.length ≤ 12) (hlt : ∀ i ∈ left, i < l.length) (hi : 0 ≤ i ∧ i.toNat < left.length) (ha : At3 l left (i.toNat + left.length - 1) a ⟨ax, ay⟩) (hbb : At3 l left i.toNat b ⟨bx, b_y⟩) (hc : At3 l left (i.toNat + 1) c ⟨cx, cy⟩) : Does Try.prog 27 [.sl es, .sl fs, i64 i, i64 turn] (.pv (bl (earF l left turn i.toNat))) [] := by
  refine does_of hT hM Try.func27 rfl (D := []) (by kernel_rfl) rfl rfl rfl (fun A K hA hK => ?_)
  have hlen : fs.length = left.length := by simp [hfs]
  have hno := earF_no (l := l) (left := left) (s := turn) (k := i.toNat)
  have hyes := earF_all (l := l) (left := left) (s := turn) (k := i.toNat)
  rw [ha.val, hbb.val, hc.val] at hno hyes
  obtain ⟨B, hB⟩ : ∃ B, B = earF l left turn i.toNat := ⟨_, rfl⟩
  rw [← hB] at hno hyes hK
  clear hB
  cbv
  refine Ar.call_ hA c_spec_l11Around (d_spec_l11Around (a := a) (c := c) hfs h0 hb (by omega) ⟨ha.nn, ha.eq⟩ ⟨hc.nn, hc.eq⟩) rfl ?_
  cbv
  refine Ar.nn_ hA (by omega) ?_
  cbv
  refine Ar.toN_ hA (fun j hj => ?_)
  cbv
  refine Ar.idx_ hA (x := i64 b) (nI_get hfs h0 (by rw [hj, Nat.mod_eq_of_lt hi.2]) ⟨hbb.nn, hbb.eq⟩) ?_
  cbv
  repeat' (first
    | (refine Ar.nn_ hA ha.nn ?_; cbv)
    | (refine Ar.nn_ hA hbb.nn ?_; cbv)
    | (refine Ar.nn_ hA hc.nn ?_; cbv)
    | (refine Ar.toN_ hA (fun jj hjj => ?_); cbv)
    | (refine Ar.idx_ hA (x := pt ax ay) (ha.es hes (by assumption)) ?_; cbv)
    | (refine Ar.idx_ hA (x := pt bx b_y) (hbb.es hes (by assumption)) ?_; cbv)
    | (refine Ar.idx_ hA (x := pt cx cy) (hc.es hes (by assumption)) ?_; cbv))
  refine Ar.callI hA c_spec_l8Orient (d_spec_l8Orient ha.bnd hbb.bnd hc.bnd) rfl (fun g hg => ?_)
  cbv
  refine Ar.neq_ hA (fun hne => ?_) (fun heq => ?_)
  · cbv
    exact hK _ _ (by rw [hno (by rw [← hg]; exact hne)]) rfl
  have hyes := hyes (by rw [← hg]; exact heq)
  cbv
  refine Ar.len_ hA (fun n hn hn' => ?_)
  cbv
  refine Ar.loop_ hA (α := Int) (fun q => (n - q).toNat) (fun q => 0 ≤ q ∧ q ≤ n ∧ ∀ x ∈ left.take q.toNat, offE l left i.toNat x = true) 78 (fun q => [(0, .pv (.sl es) []), (9, .pv (i64 a) []), (10, .pv (i64 c) []), (11, .pv (i64 b) []), (39, .pv (.sl fs) []), (40, .pv (i64 n) []), (41, .pv (i64 q) [])]) (fun _ => []) 0 (by refine ⟨?_, ⟨?_, ?_, ?_, ?_, ?_, ?_, ?_, trivial⟩, trivial⟩ <;> cbv) ⟨by omega, by omega, by simp⟩ ?_
  intro q s f ⟨h1, h2, h3⟩
  cbv
  refine Ar.lss_ hA (fun h => ?_) (fun h => ?_)
  · obtain ⟨x, xx, xy, hx⟩ := at3 hok h0 hlt q.toNat
    have hql : q.toNat < left.length := by omega
    have hxl : left[q.toNat]? = some x.toNat := by rw [cor_lt hql, hx.eq]
    have hax : at0 l x.toNat = ⟨xx, xy⟩ := at0_of hx.get
    have hoff : offE l left i.toNat x.toNat = (decide (x = a) || decide (x = b) || decide (x = c) || !inTriS ⟨ax, ay⟩ ⟨bx, b_y⟩ ⟨cx, cy⟩ ⟨xx, xy⟩) := by
      unfold offE
      rw [ha.val, hbb.val, hc.val, hax, ← ha.eq, ← hbb.eq, ← hc.eq]
      have e : ∀ y : Int, 0 ≤ y → decide (x.toNat = y.toNat) = decide (x = y) := fun y hy => by
        have := hx.nn
        by_cases e : x = y
        · rw [e]; simp
        · rw [decide_eq_false e, decide_eq_false (by omega)]
      rw [e a ha.nn, e b hbb.nn, e c hc.nn]
    have hnext : offE l left i.toNat x.toNat = true → ∀ k : Int, k = q + 1 → ∀ y ∈ left.take k.toNat, offE l left i.toNat y = true := fun ho k hk y hy => by
      rw [show k.toNat = q.toNat + 1 by omega, List.take_add_one, hxl] at hy
      simp only [Option.toList_some, List.mem_append, List.mem_singleton] at hy
      rcases hy with hy | rfl
      · exact h3 y hy
      · exact ho
    have hbad : offE l left i.toNat x.toNat = false → B = false := fun ho => by
      rw [hyes, List.all_eq_false]
      exact ⟨x.toNat, List.mem_of_getElem? hxl, by rw [ho]; simp⟩
    rw [hoff] at hnext hbad
    clear hoff
    cbv
    refine Ar.nn_ hA h1 ?_
    cbv
    refine Ar.toN_ hA (fun j2 hj2 => ?_)
    cbv
    refine Ar.idx_ hA (x := i64 x) (nI_get hfs h0 (by rw [hj2, Nat.mod_eq_of_lt hql]) ⟨hx.nn, hx.eq⟩) ?_
    cbv
    refine Ar.neq_ hA (fun na => ?_) (fun ea => ?_)
    rotate_left
    · cbv
      refine Ar.add_ hA (by omega) (fun k hk => ?_)
      cbv
      refine ⟨k, (by show (n - k).toNat < (n - q).toNat; omega), ⟨by omega, by omega, hnext (by rw [decide_eq_true ea]; rfl) k hk⟩, (by refine ⟨?_, ⟨?_, ?_, ?_, ?_, ?_, ?_, ?_, trivial⟩, trivial⟩ <;> cbv)⟩
    cbv
    refine Ar.neq_ hA (fun nb => ?_) (fun eb => ?_)
    rotate_left
    · cbv
      refine Ar.add_ hA (by omega) (fun k hk => ?_)
      cbv
      refine ⟨k, (by show (n - k).toNat < (n - q).toNat; omega), ⟨by omega, by omega, hnext (by rw [decide_eq_true eb]; simp) k hk⟩, (by refine ⟨?_, ⟨?_, ?_, ?_, ?_, ?_, ?_, ?_, trivial⟩, trivial⟩ <;> cbv)⟩
    cbv
    refine Ar.neq_ hA (fun nc => ?_) (fun ec => ?_)
    rotate_left
    · cbv
      refine Ar.add_ hA (by omega) (fun k hk => ?_)
      cbv
      refine ⟨k, (by show (n - k).toNat < (n - q).toNat; omega), ⟨by omega, by omega, hnext (by rw [decide_eq_true ec]; simp) k hk⟩, (by refine ⟨?_, ⟨?_, ?_, ?_, ?_, ?_, ?_, ?_, trivial⟩, trivial⟩ <;> cbv)⟩
    rw [decide_eq_false na, decide_eq_false nb, decide_eq_false nc] at hnext hbad
    cbv
    repeat' (first
      | (refine Ar.nn_ hA ha.nn ?_; cbv)
      | (refine Ar.nn_ hA hbb.nn ?_; cbv)
      | (refine Ar.nn_ hA hc.nn ?_; cbv)
      | (refine Ar.nn_ hA hx.nn ?_; cbv)
      | (refine Ar.toN_ hA (fun jj hjj => ?_); cbv)
      | (refine Ar.idx_ hA (x := pt ax ay) (ha.es hes (by assumption)) ?_; cbv)
      | (refine Ar.idx_ hA (x := pt bx b_y) (hbb.es hes (by assumption)) ?_; cbv)
      | (refine Ar.idx_ hA (x := pt cx cy) (hc.es hes (by assumption)) ?_; cbv)
      | (refine Ar.idx_ hA (x := pt xx xy) (hx.es hes (by assumption)) ?_; cbv))
    refine Ar.callT hA c_spec_l11In (d_spec_l11In ha.bnd hbb.bnd hc.bnd hx.bnd) rfl (fun hin => ?_) (fun hin => ?_)
    · cbv
      exact hK _ _ (by rw [hbad (by rw [hin]; rfl)]) rfl
    · cbv
      refine Ar.add_ hA (by omega) (fun k hk => ?_)
      cbv
      refine ⟨k, (by show (n - k).toNat < (n - q).toNat; omega), ⟨by omega, by omega, hnext (by rw [hin]; rfl) k hk⟩, (by refine ⟨?_, ⟨?_, ?_, ?_, ?_, ?_, ?_, ?_, trivial⟩, trivial⟩ <;> cbv)⟩
  · cbv
    rw [List.take_of_length_le (by omega)] at h3
    exact hK _ _ (by rw [hyes, List.all_eq_true.2 h3]) rfl

end Go.VAI
