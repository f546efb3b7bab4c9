/- Valid numbers, signs, comparing numbers: what each function does. -/
import Derived.Test.YtialfhjffkoakaaGreatNB
namespace Go.VAI
open Go.Proofs
set_option maxRecDepth 100000
set_option maxHeartbeats 8000000

theorem c_impl_GoodBig_1 : Callable Tryz.prog 163 := ⟨_, Tryz.func163, rfl, by kernel_rfl⟩
theorem d_impl_GoodBig_1 {x : Int} : Does Tryz.prog 163 [i64 x] (.pv (bl (!(limOk x)))) [] := by
  refine does_of hT hM Tryz.func163 rfl (D := []) (by kernel_rfl) rfl rfl rfl (fun A K hA hK => ?_)
  cbv
  repeat' (first
    | (refine Ar.nn_ hA (by omega) ?_; cbv)
    | (refine Ar.toN_ hA (fun _ _ => ?_); cbv)
    | (refine Ar.notT_ hA ?_; cbv)
    | (refine Ar.notF_ hA ?_; cbv)
    | (refine Ar.lss_ hA (fun _ => ?_) (fun _ => ?_) <;> cbv)
    | (refine Ar.leq_ hA (fun _ => ?_) (fun _ => ?_) <;> cbv)
    | (refine Ar.gtr_ hA (fun _ => ?_) (fun _ => ?_) <;> cbv)
    | (refine Ar.geq_ hA (fun _ => ?_) (fun _ => ?_) <;> cbv)
    | (refine Ar.eql_ hA (fun _ => ?_) (fun _ => ?_) <;> cbv)
    | (refine Ar.neq_ hA (fun _ => ?_) (fun _ => ?_) <;> cbv)
    | (refine Ar.add_ hA (by omega) (fun _ _ => ?_); cbv)
    | (refine Ar.sub_ hA (by omega) (fun _ _ => ?_); cbv)
    | (refine Ar.neg_ hA (by omega) (fun _ _ => ?_); cbv)
    | (refine Ar.mulB hA 2000 2000 (by omega) (by omega) (by omega) (fun _ _ _ _ => ?_); cbv)
    | (refine Ar.mulB hA 3000000000 3000000000 (by omega) (by omega) (by omega) (fun _ _ _ _ => ?_); cbv)
    | (refine Ar.nz_ hA (by omega) ?_; cbv)
    | (refine Ar.rem_ hA (by omega) (fun _ _ => ?_); cbv)
    | (refine Ar.quo_ hA (by omega) (fun _ _ => ?_); cbv)
    | (refine Ar.mx_ hA (fun _ _ => ?_); cbv)
    | (refine Ar.mn_ hA (fun _ _ => ?_); cbv)
    | (refine Ar.len_ hA (fun _ _ _ => ?_); cbv)
    | (refine Ar.lenN_ hA (fun _ _ => ?_); cbv)
    | (refine Ar.bneq_ hA (fun _ => ?_) (fun _ => ?_) <;> cbv)
    | (refine Ar.beq_ hA (fun _ => ?_) (fun _ => ?_) <;> cbv)
    | (refine Ar.ofN_ hA (fun _ _ _ => ?_); cbv)
    | (refine Ar.callT hA c_impl_within (d_impl_within) rfl (fun _ => ?_) (fun _ => ?_) <;> cbv))
  all_goals exact hK _ _ (by simp_all [limOk]; try omega) rfl

theorem c_slices_IndexFunc_int_int : Callable Tryz.prog 166 := ⟨_, Tryz.func166, rfl, by kernel_rfl⟩
theorem d_slices_IndexFunc_int_int {es : List PV} {l : List Int} {q : Int → Bool} (hes : es = l.map i64) (hb : l.length ≤ 9223372036854775807) (hq : ∀ p ∈ l, Does Tryz.prog 163 [i64 p] (.pv (bl (q p))) []) : Does Tryz.prog 166 [.sl es, .fn 163 []] (.pv (i64 (firstAt q l))) [] := by
  refine does_of hT hM Tryz.func166 rfl (D := []) (by kernel_rfl) rfl rfl rfl (fun A K hA hK => ?_)
  have hlen : es.length = l.length := by simp [hes]
  cbv
  refine Ar.len_ hA (fun n hn hn' => ?_)
  cbv
  refine Ar.loop_ hA (α := Int) (fun i => (n - i).toNat) (fun i => 0 ≤ i ∧ i ≤ n ∧ ∀ p ∈ l.take i.toNat, q p = false) 19 (fun i => [(0, .pv (.sl es) []), (1, .pv (.fn 163 []) []), (7, .pv (i64 n) []), (8, .pv (i64 i) [])]) (fun _ => []) 0 ⟨rfl, ⟨rfl, rfl, rfl, rfl, trivial⟩, trivial⟩ ⟨by omega, by omega, by simp⟩ ?_
  intro i s f ⟨h1, h2, h3⟩
  cbv
  refine Ar.lss_ hA (fun h => ?_) (fun h => ?_)
  · cbv
    refine Ar.nn_ hA (by omega) ?_
    cbv
    refine Ar.toN_ hA (fun j hj => ?_)
    cbv
    obtain ⟨p, hp⟩ : ∃ p, l[j]? = some p := ⟨l[j]'(by omega), List.getElem?_eq_getElem _⟩
    refine Ar.idx_ hA (x := i64 p) (by rw [hes, List.getElem?_map, hp]; rfl) ?_
    cbv
    refine Ar.callT hA c_impl_GoodBig_1 (hq p (List.mem_of_getElem? hp)) rfl (fun hb => ?_) (fun hb => ?_)
    · cbv
      refine hK _ _ ?_ rfl
      rw [firstAt_some hp hb (by rw [hj]; exact h3)]
      congr 3; omega
    · cbv
      refine Ar.add_ hA (by omega) (fun k hk => ?_)
      cbv
      refine ⟨k, by omega, ⟨by omega, by omega, ?_⟩, rfl, ⟨rfl, rfl, rfl, rfl, trivial⟩, trivial⟩
      rw [show k.toNat = j + 1 by omega, List.take_add_one, hp]
      intro q' hq'
      simp only [Option.toList_some, List.mem_append, List.mem_singleton] at hq'
      rcases hq' with hq' | rfl
      · exact h3 q' (by rw [← hj]; exact hq')
      · exact hb
  · cbv
    refine hK _ _ ?_ rfl
    rw [List.take_of_length_le (by omega)] at h3
    rw [firstAt_none h3]

theorem c_slices_ContainsFunc_int_int : Callable Tryz.prog 162 := ⟨_, Tryz.func162, rfl, by kernel_rfl⟩
theorem d_slices_ContainsFunc_int_int {es : List PV} {l : List Int} {q : Int → Bool} (hes : es = l.map i64) (hb : l.length ≤ 9223372036854775807) (hq : ∀ p ∈ l, Does Tryz.prog 163 [i64 p] (.pv (bl (q p))) []) : Does Tryz.prog 162 [.sl es, .fn 163 []] (.pv (bl (l.any q))) [] := by
  refine does_of hT hM Tryz.func162 rfl (D := []) (by kernel_rfl) rfl rfl rfl (fun A K hA hK => ?_)
  cbv
  refine Ar.callI hA c_slices_IndexFunc_int_int (d_slices_IndexFunc_int_int hes hb hq) rfl (fun r hr => ?_)
  cbv
  have := firstAt_any (q := q) (l := l)
  refine Ar.geq_ hA (fun h => ?_) (fun h => ?_)
  · cbv
    exact hK _ _ (by rw [← this]; simp; omega) rfl
  · cbv
    exact hK _ _ (by rw [← this]; simp; omega) rfl

theorem any_lim {l : List Int} : (l.any fun x => !limOk x) = !(l.all limOk) := by
  induction l with
  | nil => rfl
  | cons x l ih => simp [ih, Bool.not_and]

theorem c_impl_GoodBig : Callable Tryz.prog 146 := ⟨_, Tryz.func146, rfl, by kernel_rfl⟩
theorem d_impl_GoodBig {s : Bool} {es : List PV} {l : List Int} (hes : es = l.map i64) (hb : l.length ≤ 9223372036854775807) : Does Tryz.prog 146 [.agg [bl s, .sl es]] (.pv (bl (goodB s l))) [] := by
  refine does_of hT hM Tryz.func146 rfl (D := []) (by kernel_rfl) rfl rfl rfl (fun A K hA hK => ?_)
  have hlen : es.length = l.length := by simp [hes]
  have dC := d_slices_ContainsFunc_int_int (q := fun x => !limOk x) hes hb (fun p _ => d_impl_GoodBig_1)
  rw [any_lim] at dC
  have hg : goodB s l = (l.all limOk && (decide (l.length ≤ 40) && lastOk l && !(s && decide (l = [])))) := rfl
  generalize goodB s l = G at hg hK
  generalize l.all limOk = L at dC hg
  obtain ⟨x, hx, hx2⟩ : ∃ x, (0 < l.length → l[l.length - 1]? = some x) ∧ lastOk l = (decide (l = []) || decide (x ≠ 0)) := by
    rcases List.eq_nil_or_concat l with rfl | ⟨m, x, rfl⟩
    · exact ⟨0, by simp, rfl⟩
    · exact ⟨x, by simp, by simp [lastOk]⟩
  have hnil : decide (l = []) = decide (l.length = 0) := by simp
  rw [hx2, hnil] at hg
  have hix : ∀ j, 0 < l.length → j = l.length - 1 → es[j]? = some (i64 x) := fun j h0 hj => by rw [hj, hes, List.getElem?_map, hx h0]; rfl
  clear hx hx2
  obtain ⟨N, hN⟩ : ∃ N, N = l.length := ⟨_, rfl⟩
  rw [← hN] at hg hlen hix hb
  clear hnil hN
  cases s
  all_goals
    cbv
    repeat' (first
      | (refine Ar.nn_ hA (by omega) ?_; cbv)
      | (refine Ar.toN_ hA (fun _ _ => ?_); cbv)
      | (refine Ar.notT_ hA ?_; cbv)
      | (refine Ar.notF_ hA ?_; cbv)
      | (refine Ar.lss_ hA (fun _ => ?_) (fun _ => ?_) <;> cbv)
      | (refine Ar.leq_ hA (fun _ => ?_) (fun _ => ?_) <;> cbv)
      | (refine Ar.gtr_ hA (fun _ => ?_) (fun _ => ?_) <;> cbv)
      | (refine Ar.geq_ hA (fun _ => ?_) (fun _ => ?_) <;> cbv)
      | (refine Ar.eql_ hA (fun _ => ?_) (fun _ => ?_) <;> cbv)
      | (refine Ar.neq_ hA (fun _ => ?_) (fun _ => ?_) <;> cbv)
      | (refine Ar.add_ hA (by omega) (fun _ _ => ?_); cbv)
      | (refine Ar.sub_ hA (by omega) (fun _ _ => ?_); cbv)
      | (refine Ar.neg_ hA (by omega) (fun _ _ => ?_); cbv)
      | (refine Ar.mulB hA 2000 2000 (by omega) (by omega) (by omega) (fun _ _ _ _ => ?_); cbv)
      | (refine Ar.mulB hA 3000000000 3000000000 (by omega) (by omega) (by omega) (fun _ _ _ _ => ?_); cbv)
      | (refine Ar.nz_ hA (by omega) ?_; cbv)
      | (refine Ar.rem_ hA (by omega) (fun _ _ => ?_); cbv)
      | (refine Ar.quo_ hA (by omega) (fun _ _ => ?_); cbv)
      | (refine Ar.mx_ hA (fun _ _ => ?_); cbv)
      | (refine Ar.mn_ hA (fun _ _ => ?_); cbv)
      | (refine Ar.len_ hA (fun _ _ _ => ?_); cbv)
      | (refine Ar.lenN_ hA (fun _ _ => ?_); cbv)
      | (refine Ar.bneq_ hA (fun _ => ?_) (fun _ => ?_) <;> cbv)
      | (refine Ar.beq_ hA (fun _ => ?_) (fun _ => ?_) <;> cbv)
      | (refine Ar.ofN_ hA (fun _ _ _ => ?_); cbv)
      | (refine Ar.callT hA c_slices_ContainsFunc_int_int dC rfl (fun _ => ?_) (fun _ => ?_) <;> cbv)
      | (refine Ar.idx_ hA (x := i64 x) (hix _ (by omega) (by omega)) ?_; cbv))
    all_goals refine hK _ _ ?_ rfl
    all_goals rw [hg]
    all_goals clear hK dC hix hg hes hA
    all_goals simp_all <;> omega

theorem c_spec_GoodBig : Callable Tryz.prog 119 := ⟨_, Tryz.func119, rfl, by kernel_rfl⟩
theorem d_spec_GoodBig {s : Bool} {es : List PV} {l : List Int} (hes : es = l.map i64) (hb : l.length ≤ 9223372036854775807) : Does Tryz.prog 119 [.agg [bl s, .sl es]] (.pv (bl (goodB s l))) [] := by
  refine does_of hT hM Tryz.func119 rfl (D := []) (by kernel_rfl) rfl rfl rfl (fun A K hA hK => ?_)
  have hlen : es.length = l.length := by simp [hes]
  have hg : goodB s l = (l.all limOk && (decide (l.length ≤ 40) && lastOk l && !(s && decide (l = [])))) := rfl
  generalize goodB s l = G at hg hK
  obtain ⟨x, hx, hx2⟩ : ∃ x, (0 < l.length → l[l.length - 1]? = some x) ∧ lastOk l = (decide (l = []) || decide (x ≠ 0)) := by
    rcases List.eq_nil_or_concat l with rfl | ⟨m, x, rfl⟩
    · exact ⟨0, by simp, rfl⟩
    · exact ⟨x, by simp, by simp [lastOk]⟩
  have hnil : decide (l = []) = decide (l.length = 0) := by simp
  rw [hx2, hnil] at hg
  have hix : ∀ j, 0 < l.length → j = l.length - 1 → es[j]? = some (i64 x) := fun j h0 hj => by rw [hj, hes, List.getElem?_map, hx h0]; rfl
  cbv
  refine Ar.len_ hA (fun n hn hn' => ?_)
  cbv
  refine Ar.loop_ hA (α := Int) (fun i => (n - i).toNat) (fun i => 0 ≤ i ∧ i ≤ n ∧ ∀ p ∈ l.take i.toNat, limOk p = true) 36 (fun i => [(1, .ref 1 0), (7, .pv (.sl es) []), (8, .pv (i64 n) []), (9, .pv (i64 i) [])]) (fun _ => [(1, some (.cell [.pv (bl s) [], .pv (.sl es) []]))]) 0 ⟨rfl, ⟨rfl, rfl, rfl, rfl, trivial⟩, rfl, trivial⟩ ⟨by omega, by omega, by simp⟩ ?_
  intro i st f ⟨h1, h2, h3⟩
  cbv
  refine Ar.lss_ hA (fun h => ?_) (fun h => ?_)
  · cbv
    refine Ar.nn_ hA (by omega) ?_
    cbv
    refine Ar.toN_ hA (fun j hj => ?_)
    cbv
    obtain ⟨p, hp⟩ : ∃ p, l[j]? = some p := ⟨l[j]'(by omega), List.getElem?_eq_getElem _⟩
    refine Ar.idx_ hA (x := i64 p) (by rw [hes, List.getElem?_map, hp]; rfl) ?_
    cbv
    refine Ar.callT hA c_spec_l1In d_spec_l1In rfl (fun hb => ?_) (fun hb => ?_)
    · cbv
      refine Ar.notT_ hA ?_
      cbv
      refine Ar.add_ hA (by omega) (fun k hk => ?_)
      cbv
      refine ⟨k, by omega, ⟨by omega, by omega, ?_⟩, rfl, ⟨rfl, rfl, rfl, rfl, trivial⟩, rfl, trivial⟩
      rw [show k.toNat = j + 1 by omega, List.take_add_one, hp]
      intro q' hq'
      simp only [Option.toList_some, List.mem_append, List.mem_singleton] at hq'
      rcases hq' with hq' | rfl
      · exact h3 q' (by rw [← hj]; exact hq')
      · exact hb
    · cbv
      refine Ar.notF_ hA ?_
      cbv
      have hL : l.all limOk = false := by
        rw [List.all_eq_false]
        exact ⟨p, List.mem_of_getElem? hp, by rw [show limOk p = false from hb]; simp⟩
      exact hK _ _ (by rw [hg, hL]; rfl) rfl
  · cbv
    rw [List.take_of_length_le (by omega)] at h3
    have hL : l.all limOk = true := by rw [List.all_eq_true]; exact h3
    rw [hL] at hg
    clear hx hx2 hL h3
    obtain ⟨N, hN⟩ : ∃ N, N = l.length := ⟨_, rfl⟩
    rw [← hN] at hg hlen hix hb
    clear hnil hN
    cases s
    all_goals
      repeat' (first
        | (refine Ar.nn_ hA (by omega) ?_; cbv)
        | (refine Ar.toN_ hA (fun _ _ => ?_); cbv)
        | (refine Ar.notT_ hA ?_; cbv)
        | (refine Ar.notF_ hA ?_; cbv)
        | (refine Ar.lss_ hA (fun _ => ?_) (fun _ => ?_) <;> cbv)
        | (refine Ar.leq_ hA (fun _ => ?_) (fun _ => ?_) <;> cbv)
        | (refine Ar.gtr_ hA (fun _ => ?_) (fun _ => ?_) <;> cbv)
        | (refine Ar.geq_ hA (fun _ => ?_) (fun _ => ?_) <;> cbv)
        | (refine Ar.eql_ hA (fun _ => ?_) (fun _ => ?_) <;> cbv)
        | (refine Ar.neq_ hA (fun _ => ?_) (fun _ => ?_) <;> cbv)
        | (refine Ar.add_ hA (by omega) (fun _ _ => ?_); cbv)
        | (refine Ar.sub_ hA (by omega) (fun _ _ => ?_); cbv)
        | (refine Ar.neg_ hA (by omega) (fun _ _ => ?_); cbv)
        | (refine Ar.mulB hA 2000 2000 (by omega) (by omega) (by omega) (fun _ _ _ _ => ?_); cbv)
        | (refine Ar.mulB hA 3000000000 3000000000 (by omega) (by omega) (by omega) (fun _ _ _ _ => ?_); cbv)
        | (refine Ar.nz_ hA (by omega) ?_; cbv)
        | (refine Ar.rem_ hA (by omega) (fun _ _ => ?_); cbv)
        | (refine Ar.quo_ hA (by omega) (fun _ _ => ?_); cbv)
        | (refine Ar.mx_ hA (fun _ _ => ?_); cbv)
        | (refine Ar.mn_ hA (fun _ _ => ?_); cbv)
        | (refine Ar.len_ hA (fun _ _ _ => ?_); cbv)
        | (refine Ar.lenN_ hA (fun _ _ => ?_); cbv)
        | (refine Ar.bneq_ hA (fun _ => ?_) (fun _ => ?_) <;> cbv)
        | (refine Ar.beq_ hA (fun _ => ?_) (fun _ => ?_) <;> cbv)
        | (refine Ar.ofN_ hA (fun _ _ _ => ?_); cbv)
        | (refine Ar.idx_ hA (x := i64 x) (hix _ (by omega) (by omega)) ?_; cbv))
      all_goals refine hK _ _ ?_ rfl
      all_goals rw [hg]
      all_goals clear hK hix hg hes hA
      all_goals simp_all <;> omega

def bpv (p : Bool × List Int) : PV := .agg [bl p.1, .sl (p.2.map i64)]

theorem c_impl_areBig_1 : Callable Tryz.prog 145 := ⟨_, Tryz.func145, rfl, by kernel_rfl⟩
theorem d_impl_areBig_1 {s : Bool} {es : List PV} {l : List Int} (hes : es = l.map i64) (hb : l.length ≤ 9223372036854775807) : Does Tryz.prog 145 [.agg [bl s, .sl es]] (.pv (bl (!(goodB s l)))) [] := by
  refine does_of hT hM Tryz.func145 rfl (D := []) (by kernel_rfl) rfl rfl rfl (fun A K hA hK => ?_)
  obtain ⟨G, hG⟩ : ∃ G, G = goodB s l := ⟨_, rfl⟩
  have d := d_impl_GoodBig (s := s) hes hb
  rw [← hG] at hK d
  cbv
  refine Ar.callT hA c_impl_GoodBig d rfl (fun hb => ?_) (fun hb => ?_)
  all_goals
    cbv
    repeat' (first
      | (refine Ar.nn_ hA (by omega) ?_; cbv)
      | (refine Ar.toN_ hA (fun _ _ => ?_); cbv)
      | (refine Ar.notT_ hA ?_; cbv)
      | (refine Ar.notF_ hA ?_; cbv)
      | (refine Ar.lss_ hA (fun _ => ?_) (fun _ => ?_) <;> cbv)
      | (refine Ar.leq_ hA (fun _ => ?_) (fun _ => ?_) <;> cbv)
      | (refine Ar.gtr_ hA (fun _ => ?_) (fun _ => ?_) <;> cbv)
      | (refine Ar.geq_ hA (fun _ => ?_) (fun _ => ?_) <;> cbv)
      | (refine Ar.eql_ hA (fun _ => ?_) (fun _ => ?_) <;> cbv)
      | (refine Ar.neq_ hA (fun _ => ?_) (fun _ => ?_) <;> cbv)
      | (refine Ar.add_ hA (by omega) (fun _ _ => ?_); cbv)
      | (refine Ar.sub_ hA (by omega) (fun _ _ => ?_); cbv)
      | (refine Ar.neg_ hA (by omega) (fun _ _ => ?_); cbv)
      | (refine Ar.mulB hA 2000 2000 (by omega) (by omega) (by omega) (fun _ _ _ _ => ?_); cbv)
      | (refine Ar.mulB hA 3000000000 3000000000 (by omega) (by omega) (by omega) (fun _ _ _ _ => ?_); cbv)
      | (refine Ar.nz_ hA (by omega) ?_; cbv)
      | (refine Ar.rem_ hA (by omega) (fun _ _ => ?_); cbv)
      | (refine Ar.quo_ hA (by omega) (fun _ _ => ?_); cbv)
      | (refine Ar.mx_ hA (fun _ _ => ?_); cbv)
      | (refine Ar.mn_ hA (fun _ _ => ?_); cbv)
      | (refine Ar.len_ hA (fun _ _ _ => ?_); cbv)
      | (refine Ar.lenN_ hA (fun _ _ => ?_); cbv)
      | (refine Ar.bneq_ hA (fun _ => ?_) (fun _ => ?_) <;> cbv)
      | (refine Ar.beq_ hA (fun _ => ?_) (fun _ => ?_) <;> cbv)
      | (refine Ar.ofN_ hA (fun _ _ _ => ?_); cbv)
)
    exact hK _ _ (by rw [hb]; rfl) rfl

theorem c_slices_IndexFunc_impl_Big_impl_Big : Callable Tryz.prog 161 := ⟨_, Tryz.func161, rfl, by kernel_rfl⟩
theorem d_slices_IndexFunc_impl_Big_impl_Big {es : List PV} {l : List (Bool × List Int)} {q : Bool × List Int → Bool} (hes : es = l.map bpv) (hb : l.length ≤ 9223372036854775807) (hq : ∀ p ∈ l, ∀ e, e = p.2.map i64 → Does Tryz.prog 145 [.agg [bl p.1, .sl e]] (.pv (bl (q p))) []) : Does Tryz.prog 161 [.sl es, .fn 145 []] (.pv (i64 (firstAt q l))) [] := by
  refine does_of hT hM Tryz.func161 rfl (D := []) (by kernel_rfl) rfl rfl rfl (fun A K hA hK => ?_)
  have hlen : es.length = l.length := by simp [hes]
  cbv
  refine Ar.len_ hA (fun n hn hn' => ?_)
  cbv
  refine Ar.loop_ hA (α := Int) (fun i => (n - i).toNat) (fun i => 0 ≤ i ∧ i ≤ n ∧ ∀ p ∈ l.take i.toNat, q p = false) 19 (fun i => [(0, .pv (.sl es) []), (1, .pv (.fn 145 []) []), (7, .pv (i64 n) []), (8, .pv (i64 i) [])]) (fun _ => []) 0 ⟨rfl, ⟨rfl, rfl, rfl, rfl, trivial⟩, trivial⟩ ⟨by omega, by omega, by simp⟩ ?_
  intro i s f ⟨h1, h2, h3⟩
  cbv
  refine Ar.lss_ hA (fun h => ?_) (fun h => ?_)
  · cbv
    refine Ar.nn_ hA (by omega) ?_
    cbv
    refine Ar.toN_ hA (fun j hj => ?_)
    cbv
    obtain ⟨⟨ps, pl⟩, hp⟩ : ∃ p, l[j]? = some p := ⟨l[j]'(by omega), List.getElem?_eq_getElem _⟩
    obtain ⟨pe, hpe⟩ : ∃ e, e = pl.map i64 := ⟨_, rfl⟩
    refine Ar.idx_ hA (x := .agg [bl ps, .sl pe]) (by rw [hes, List.getElem?_map, hp, hpe]; rfl) ?_
    cbv
    refine Ar.callT hA c_impl_areBig_1 (hq _ (List.mem_of_getElem? hp) _ hpe) rfl (fun hb => ?_) (fun hb => ?_)
    · cbv
      refine hK _ _ ?_ rfl
      rw [firstAt_some hp hb (by rw [hj]; exact h3)]
      congr 3; omega
    · cbv
      refine Ar.add_ hA (by omega) (fun k hk => ?_)
      cbv
      refine ⟨k, by omega, ⟨by omega, by omega, ?_⟩, rfl, ⟨rfl, rfl, rfl, rfl, trivial⟩, trivial⟩
      rw [show k.toNat = j + 1 by omega, List.take_add_one, hp]
      intro q' hq'
      simp only [Option.toList_some, List.mem_append, List.mem_singleton] at hq'
      rcases hq' with hq' | rfl
      · exact h3 q' (by rw [← hj]; exact hq')
      · exact hb
  · cbv
    refine hK _ _ ?_ rfl
    rw [List.take_of_length_le (by omega)] at h3
    rw [firstAt_none h3]

theorem c_slices_ContainsFunc_impl_Big_impl_Big : Callable Tryz.prog 144 := ⟨_, Tryz.func144, rfl, by kernel_rfl⟩
theorem d_slices_ContainsFunc_impl_Big_impl_Big {es : List PV} {l : List (Bool × List Int)} {q : Bool × List Int → Bool} (hes : es = l.map bpv) (hb : l.length ≤ 9223372036854775807) (hq : ∀ p ∈ l, ∀ e, e = p.2.map i64 → Does Tryz.prog 145 [.agg [bl p.1, .sl e]] (.pv (bl (q p))) []) : Does Tryz.prog 144 [.sl es, .fn 145 []] (.pv (bl (l.any q))) [] := by
  refine does_of hT hM Tryz.func144 rfl (D := []) (by kernel_rfl) rfl rfl rfl (fun A K hA hK => ?_)
  cbv
  refine Ar.callI hA c_slices_IndexFunc_impl_Big_impl_Big (d_slices_IndexFunc_impl_Big_impl_Big hes hb hq) rfl (fun r hr => ?_)
  cbv
  have := firstAt_any (q := q) (l := l)
  refine Ar.geq_ hA (fun h => ?_) (fun h => ?_)
  · cbv
    exact hK _ _ (by rw [← this]; simp; omega) rfl
  · cbv
    exact hK _ _ (by rw [← this]; simp; omega) rfl

def allB (l : List (Bool × List Int)) : Bool := l.all fun p => goodB p.1 p.2
theorem any_allB {l : List (Bool × List Int)} : (l.any fun p => !(goodB p.1 p.2)) = !(allB l) := by
  unfold allB
  induction l with
  | nil => rfl
  | cons x l ih => simp [ih, Bool.not_and]

theorem c_impl_areBig : Callable Tryz.prog 123 := ⟨_, Tryz.func123, rfl, by kernel_rfl⟩
theorem d_impl_areBig {es : List PV} {l : List (Bool × List Int)} (hes : es = l.map bpv) (hb : l.length ≤ 9223372036854775807) (hb2 : ∀ p ∈ l, p.2.length ≤ 9223372036854775807) : Does Tryz.prog 123 [.sl es] (.pv (bl (allB l))) [] := by
  refine does_of hT hM Tryz.func123 rfl (D := []) (by kernel_rfl) rfl rfl rfl (fun A K hA hK => ?_)
  have d := d_slices_ContainsFunc_impl_Big_impl_Big (q := fun p => !(goodB p.1 p.2)) hes hb (fun p hp e he => d_impl_areBig_1 he (hb2 p hp))
  rw [any_allB] at d
  generalize allB l = G at d hK
  cbv
  refine Ar.callT hA c_slices_ContainsFunc_impl_Big_impl_Big d rfl (fun h => ?_) (fun h => ?_)
  all_goals
    cbv
    repeat' (first
      | (refine Ar.nn_ hA (by omega) ?_; cbv)
      | (refine Ar.toN_ hA (fun _ _ => ?_); cbv)
      | (refine Ar.notT_ hA ?_; cbv)
      | (refine Ar.notF_ hA ?_; cbv)
      | (refine Ar.lss_ hA (fun _ => ?_) (fun _ => ?_) <;> cbv)
      | (refine Ar.leq_ hA (fun _ => ?_) (fun _ => ?_) <;> cbv)
      | (refine Ar.gtr_ hA (fun _ => ?_) (fun _ => ?_) <;> cbv)
      | (refine Ar.geq_ hA (fun _ => ?_) (fun _ => ?_) <;> cbv)
      | (refine Ar.eql_ hA (fun _ => ?_) (fun _ => ?_) <;> cbv)
      | (refine Ar.neq_ hA (fun _ => ?_) (fun _ => ?_) <;> cbv)
      | (refine Ar.add_ hA (by omega) (fun _ _ => ?_); cbv)
      | (refine Ar.sub_ hA (by omega) (fun _ _ => ?_); cbv)
      | (refine Ar.neg_ hA (by omega) (fun _ _ => ?_); cbv)
      | (refine Ar.mulB hA 2000 2000 (by omega) (by omega) (by omega) (fun _ _ _ _ => ?_); cbv)
      | (refine Ar.mulB hA 3000000000 3000000000 (by omega) (by omega) (by omega) (fun _ _ _ _ => ?_); cbv)
      | (refine Ar.nz_ hA (by omega) ?_; cbv)
      | (refine Ar.rem_ hA (by omega) (fun _ _ => ?_); cbv)
      | (refine Ar.quo_ hA (by omega) (fun _ _ => ?_); cbv)
      | (refine Ar.mx_ hA (fun _ _ => ?_); cbv)
      | (refine Ar.mn_ hA (fun _ _ => ?_); cbv)
      | (refine Ar.len_ hA (fun _ _ _ => ?_); cbv)
      | (refine Ar.lenN_ hA (fun _ _ => ?_); cbv)
      | (refine Ar.bneq_ hA (fun _ => ?_) (fun _ => ?_) <;> cbv)
      | (refine Ar.beq_ hA (fun _ => ?_) (fun _ => ?_) <;> cbv)
      | (refine Ar.ofN_ hA (fun _ _ _ => ?_); cbv)
)
    exact hK _ _ (by simp_all) rfl

theorem sgn_big {s : Bool} {es : List PV} {z : Int} (h : Big s es z) : (es = [] → z = 0) ∧ (es ≠ [] → z ≠ 0) ∧ (s = true → z < 0) ∧ (s = false → 0 ≤ z) := by
  have h0 := h.1.zero
  have e : iabs z = 0 ↔ z = 0 := by unfold iabs; split <;> omega
  rw [e] at h0
  refine ⟨h0.1, fun h1 h2 => h1 (h0.2 h2), fun hs => ?_, fun hs => ?_⟩
  · have := h.2; rw [hs] at this; simpa using this.symm
  · have := h.2; rw [hs] at this; simpa using this.symm

theorem c_impl_Big_sign : Callable Tryz.prog 124 := ⟨_, Tryz.func124, rfl, by kernel_rfl⟩
theorem d_impl_Big_sign {s : Bool} {es : List PV} {z : Int} (h : Big s es z) : Does Tryz.prog 124 [.agg [bl s, .sl es]] (.pv (i64 (sgn z))) [] := by
  refine does_of hT hM Tryz.func124 rfl (D := []) (by kernel_rfl) rfl rfl rfl (fun A K hA hK => ?_)
  obtain ⟨h1, h2, h3, h4⟩ := sgn_big h
  cases s
  all_goals
    cbv
    refine Ar.len_ hA (fun n hn hn' => ?_)
    cbv
    repeat' (first
      | (refine Ar.nn_ hA (by omega) ?_; cbv)
      | (refine Ar.toN_ hA (fun _ _ => ?_); cbv)
      | (refine Ar.notT_ hA ?_; cbv)
      | (refine Ar.notF_ hA ?_; cbv)
      | (refine Ar.lss_ hA (fun _ => ?_) (fun _ => ?_) <;> cbv)
      | (refine Ar.leq_ hA (fun _ => ?_) (fun _ => ?_) <;> cbv)
      | (refine Ar.gtr_ hA (fun _ => ?_) (fun _ => ?_) <;> cbv)
      | (refine Ar.geq_ hA (fun _ => ?_) (fun _ => ?_) <;> cbv)
      | (refine Ar.eql_ hA (fun _ => ?_) (fun _ => ?_) <;> cbv)
      | (refine Ar.neq_ hA (fun _ => ?_) (fun _ => ?_) <;> cbv)
      | (refine Ar.add_ hA (by omega) (fun _ _ => ?_); cbv)
      | (refine Ar.sub_ hA (by omega) (fun _ _ => ?_); cbv)
      | (refine Ar.neg_ hA (by omega) (fun _ _ => ?_); cbv)
      | (refine Ar.mulB hA 2000 2000 (by omega) (by omega) (by omega) (fun _ _ _ _ => ?_); cbv)
      | (refine Ar.mulB hA 3000000000 3000000000 (by omega) (by omega) (by omega) (fun _ _ _ _ => ?_); cbv)
      | (refine Ar.nz_ hA (by omega) ?_; cbv)
      | (refine Ar.rem_ hA (by omega) (fun _ _ => ?_); cbv)
      | (refine Ar.quo_ hA (by omega) (fun _ _ => ?_); cbv)
      | (refine Ar.mx_ hA (fun _ _ => ?_); cbv)
      | (refine Ar.mn_ hA (fun _ _ => ?_); cbv)
      | (refine Ar.len_ hA (fun _ _ _ => ?_); cbv)
      | (refine Ar.lenN_ hA (fun _ _ => ?_); cbv)
      | (refine Ar.bneq_ hA (fun _ => ?_) (fun _ => ?_) <;> cbv)
      | (refine Ar.beq_ hA (fun _ => ?_) (fun _ => ?_) <;> cbv)
      | (refine Ar.ofN_ hA (fun _ _ _ => ?_); cbv)
)
    all_goals refine hK _ _ ?_ rfl
  · rw [h1 (List.eq_nil_of_length_eq_zero (by omega))]; rfl
  · have := h2 (by rintro rfl; simp at hn'; omega)
    have := h4 rfl
    have : sgn z = 1 := by unfold sgn; rw [if_neg (by omega), if_pos (by omega)]
    rw [this]
  · rw [h1 (List.eq_nil_of_length_eq_zero (by omega))]; rfl
  · have := h3 rfl
    have : sgn z = -1 := by unfold sgn; first | rw [if_pos this] | rw [if_neg (by omega), if_pos this]
    rw [this]

theorem c_impl_compareBig : Callable Tryz.prog 125 := ⟨_, Tryz.func125, rfl, by kernel_rfl⟩
theorem d_impl_compareBig {s t : Bool} {a b : List PV} {x y : Int} (ha : Big s a x) (hb : Big t b y) (hl : a.length ≤ 1000000 ∧ b.length ≤ 1000000) : Does Tryz.prog 125 [.agg [bl s, .sl a], .agg [bl t, .sl b]] (.pv (i64 (cmpI x y))) [] := by
  refine does_of hT hM Tryz.func125 rfl (D := []) (by kernel_rfl) rfl rfl rfl (fun A K hA hK => ?_)
  have e1 : sgn x ≠ sgn y → cmpI (sgn x) (sgn y) = cmpI x y := fun h => by unfold cmpI sgn at *; (repeat' split) <;> (repeat' split at h) <;> omega
  have e2 : sgn x = sgn y → sgn x * cmpI (iabs x) (iabs y) = cmpI x y := fun h => by unfold cmpI sgn iabs at *; (repeat' split) <;> (repeat' split at h) <;> omega
  have e3 : -1 ≤ sgn x ∧ sgn x ≤ 1 := by unfold sgn; (repeat' split) <;> omega
  have e4 : ∀ x y, -1 ≤ cmpI x y ∧ cmpI x y ≤ 1 := fun x y => by unfold cmpI; (repeat' split) <;> omega
  have dx := d_impl_Big_sign ha
  have dy := d_impl_Big_sign hb
  have dl := d_impl_compareLimbs ha.1 hb.1 hl
  have e5 := e4 (iabs x) (iabs y)
  clear e4
  generalize cmpI (iabs x) (iabs y) = D at e2 dl e5
  generalize sgn x = X at *
  generalize sgn y = Y at *
  generalize cmpI x y = C at *
  cbv
  refine Ar.callI hA c_impl_Big_sign dx rfl (fun r hr => ?_)
  cbv
  refine Ar.callI hA c_impl_Big_sign dy rfl (fun r2 hr2 => ?_)
  cbv
  refine Ar.neq_ hA (fun h0 => ?_) (fun h0 => ?_)
  · cbv
    refine Ar.callI hA c_impl_Big_sign dx rfl (fun r3 hr3 => ?_)
    cbv
    refine Ar.callI hA c_impl_Big_sign dy rfl (fun r4 hr4 => ?_)
    cbv
    refine Ar.callI hA c_cmp_Compare_int d_cmp_Compare_int rfl (fun r5 hr5 => ?_)
    cbv
    exact hK _ _ (by rw [hr5, hr3, hr4, e1 (by omega)]) rfl
  · cbv
    refine Ar.callI hA c_impl_Big_sign dx rfl (fun r3 hr3 => ?_)
    cbv
    refine Ar.callI hA c_impl_compareLimbs dl rfl (fun r4 hr4 => ?_)
    cbv
    refine Ar.mulB hA 1 1 (by omega) (by omega) (by omega) (fun r5 hr5 _ _ => ?_)
    cbv
    exact hK _ _ (by rw [hr5, hr3, hr4, e2 (by omega)]) rfl

theorem c_spec_l1CmpBig : Callable Tryz.prog 153 := ⟨_, Tryz.func153, rfl, by kernel_rfl⟩
theorem d_spec_l1CmpBig {s t : Bool} {a b : List PV} {x y : Int} (ha : Big s a x) (hb : Big t b y) (hl : a.length ≤ 1000000 ∧ b.length ≤ 1000000) : Does Tryz.prog 153 [.agg [bl s, .sl a], .agg [bl t, .sl b]] (.pv (i64 (cmpI x y))) [] := by
  refine does_of hT hM Tryz.func153 rfl (D := []) (by kernel_rfl) rfl rfl rfl (fun A K hA hK => ?_)
  obtain ⟨_, _, h3, h4⟩ := sgn_big ha
  obtain ⟨_, _, h5, h6⟩ := sgn_big hb
  have d1 := d_spec_l1Cmp ha.1 hb.1 hl
  have d2 := d_spec_l1Cmp hb.1 ha.1 hl.symm
  have e1 : s = true → t = false → cmpI x y = -1 := fun h h' => by have := h3 h; have := h6 h'; unfold cmpI; rw [if_pos (by omega)]
  have e2 : s = false → t = true → cmpI x y = 1 := fun h h' => by have := h4 h; have := h5 h'; unfold cmpI; rw [if_neg (by omega), if_pos (by omega)]
  have e3 : s = true → t = true → cmpI (iabs y) (iabs x) = cmpI x y := fun h h' => by have := h3 h; have := h5 h'; unfold cmpI iabs; (repeat' split) <;> omega
  have e4 : s = false → t = false → cmpI (iabs x) (iabs y) = cmpI x y := fun h h' => by have := h4 h; have := h6 h'; unfold cmpI iabs; (repeat' split) <;> omega
  generalize cmpI (iabs x) (iabs y) = D at *
  generalize cmpI (iabs y) (iabs x) = D' at *
  generalize cmpI x y = C at *
  clear h3 h4 h5 h6 ha hb
  cases s <;> cases t
  all_goals
    cbv
    repeat' (first
      | (refine Ar.nn_ hA (by omega) ?_; cbv)
      | (refine Ar.toN_ hA (fun _ _ => ?_); cbv)
      | (refine Ar.notT_ hA ?_; cbv)
      | (refine Ar.notF_ hA ?_; cbv)
      | (refine Ar.lss_ hA (fun _ => ?_) (fun _ => ?_) <;> cbv)
      | (refine Ar.leq_ hA (fun _ => ?_) (fun _ => ?_) <;> cbv)
      | (refine Ar.gtr_ hA (fun _ => ?_) (fun _ => ?_) <;> cbv)
      | (refine Ar.geq_ hA (fun _ => ?_) (fun _ => ?_) <;> cbv)
      | (refine Ar.eql_ hA (fun _ => ?_) (fun _ => ?_) <;> cbv)
      | (refine Ar.neq_ hA (fun _ => ?_) (fun _ => ?_) <;> cbv)
      | (refine Ar.add_ hA (by omega) (fun _ _ => ?_); cbv)
      | (refine Ar.sub_ hA (by omega) (fun _ _ => ?_); cbv)
      | (refine Ar.neg_ hA (by omega) (fun _ _ => ?_); cbv)
      | (refine Ar.mulB hA 2000 2000 (by omega) (by omega) (by omega) (fun _ _ _ _ => ?_); cbv)
      | (refine Ar.mulB hA 3000000000 3000000000 (by omega) (by omega) (by omega) (fun _ _ _ _ => ?_); cbv)
      | (refine Ar.nz_ hA (by omega) ?_; cbv)
      | (refine Ar.rem_ hA (by omega) (fun _ _ => ?_); cbv)
      | (refine Ar.quo_ hA (by omega) (fun _ _ => ?_); cbv)
      | (refine Ar.mx_ hA (fun _ _ => ?_); cbv)
      | (refine Ar.mn_ hA (fun _ _ => ?_); cbv)
      | (refine Ar.len_ hA (fun _ _ _ => ?_); cbv)
      | (refine Ar.lenN_ hA (fun _ _ => ?_); cbv)
      | (refine Ar.bneq_ hA (fun _ => ?_) (fun _ => ?_) <;> cbv)
      | (refine Ar.beq_ hA (fun _ => ?_) (fun _ => ?_) <;> cbv)
      | (refine Ar.ofN_ hA (fun _ _ _ => ?_); cbv)
      | (refine Ar.callI hA c_spec_l1Cmp (by first | exact d1 | exact d2) rfl (fun r hr => ?_); cbv))
    all_goals exact hK _ _ (by simp_all) rfl

end Go.VAI
