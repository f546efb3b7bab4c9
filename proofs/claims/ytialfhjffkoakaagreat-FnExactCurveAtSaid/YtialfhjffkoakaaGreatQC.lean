/- Rows of points: turned round, copied, made of whole numbers; both sides. -/
import Derived.Test.YtialfhjffkoakaaGreatQA
namespace Go.VAI
open Go.Proofs
set_option maxRecDepth 100000
set_option maxHeartbeats 8000000

theorem p8_rows {es : List PV} {l : List R8} {ps : List (Rat × Rat)} (hes : es = l.map r8pv) (hl : l = ps.map b8) : es = ps.map p8 := by
  subst hes hl; rw [List.map_map]; rfl
theorem ring_ex {l : List R8} (h : ringOk l = true) : l.length ≤ 40 ∧ ∃ ps : List (Rat × Rat), l = ps.map b8 ∧ ∀ p ∈ ps, Szp 8 p := by
  unfold ringOk at h
  simp only [Bool.and_eq_true, decide_eq_true_eq] at h
  exact ⟨h.1, b8_all h.2⟩
theorem curve_ex {l : List R8} (h : curveOk l = true) : (1 ≤ l.length ∧ l.length ≤ 5) ∧ ∃ ps : List (Rat × Rat), l = ps.map b8 ∧ ∀ p ∈ ps, Szp 2 p := by
  unfold curveOk at h
  simp only [Bool.and_eq_true, decide_eq_true_eq] at h
  exact ⟨h.1, b8_all h.2⟩
theorem okP_iff {p : Rat × Rat} : okP p = true ↔ Szp 40 p := by
  unfold okP; rw [Bool.and_eq_true, fits_iff, fits_iff]
theorem b8_lens {k : Nat} {ps : List (Rat × Rat)} (h : ∀ p ∈ ps, Szp k p) (hk : k ≤ 1048576) : ∀ r ∈ ps.map b8, len8 1048576 r := by
  intro r hr
  obtain ⟨p, hp, rfl⟩ := List.mem_map.1 hr
  have := b8_len (h p hp)
  exact ⟨⟨by have := this.1.1; omega, by have := this.1.2; omega⟩, ⟨by have := this.2.1; omega, by have := this.2.2; omega⟩⟩
theorem b8_lenOk {k : Nat} {ps : List (Rat × Rat)} (h : ∀ p ∈ ps, Szp k p) (hk : k ≤ 1048576) : ∀ r ∈ ps.map b8, lenOk r.1 ∧ lenOk r.2 := by
  intro r hr
  obtain ⟨⟨h1, h2⟩, h3, h4⟩ := b8_lens h hk r hr
  exact ⟨⟨by omega, by omega⟩, ⟨by omega, by omega⟩⟩

/-- One of two rows, read only. -/
theorem Does.wkIf {P : Program} {f : FuncId} {args : List PV} {c : Prop} [Decidable c] {C : List PV} {b : PV} {outs : List PV} (h : Does P f args (.tup [if c then .row C 8 .free else .row C 8 (.sh []), .pv b]) outs) : Does P f args (.tup [.pv (.sl C), .pv b]) outs := by
  split at h
  · exact h.wk
  · exact h.wk
theorem Does.wkIf1 {P : Program} {f : FuncId} {args : List PV} {c : Prop} [Decidable c] {C : List PV} {outs : List PV} (h : Does P f args (if c then .row C 8 .free else .row C 8 (.sh [])) outs) : Does P f args (.pv (.sl C)) outs := by
  split at h
  · exact h.wk
  · exact h.wk
abbrev ruB (b : Bool) : RU := match b with
  | true => .free
  | false => .sh []

/-! ### A row turned round -/

theorem raw8 {x : PV} (h : rawEl 8 x) : ∃ v1 v2 v3 v4 v5 v6 v7 v8, x = .agg [.val v1, .val v2, .val v3, .val v4, .val v5, .val v6, .val v7, .val v8] := by
  obtain ⟨ls, rfl, hl, hv⟩ := h
  match ls, hl with
  | [a1, a2, a3, a4, a5, a6, a7, a8], _ =>
    simp only [List.all_cons, List.all_nil, Bool.and_true, Bool.and_eq_true] at hv
    have e : ∀ {y : PV}, isVal y = true → ∃ v, y = .val v := fun {y} h => by cases y <;> first | exact ⟨_, rfl⟩ | simp [isVal] at h
    obtain ⟨h1, h2, h3, h4, h5, h6, h7, h8⟩ := hv
    obtain ⟨_, rfl⟩ := e h1
    obtain ⟨_, rfl⟩ := e h2
    obtain ⟨_, rfl⟩ := e h3
    obtain ⟨_, rfl⟩ := e h4
    obtain ⟨_, rfl⟩ := e h5
    obtain ⟨_, rfl⟩ := e h6
    obtain ⟨_, rfl⟩ := e h7
    obtain ⟨_, rfl⟩ := e h8
    exact ⟨_, _, _, _, _, _, _, _, rfl⟩

theorem rev_stepG {α : Type} {l m : List α} {i q n : Nat} (hm : m.length = n) (hiq : i < q) (hq : i + q + 1 = n) (h : ∀ k, k < n → m[k]? = if k < i ∨ n < k + 1 + i then l[n - 1 - k]? else l[k]?) {A B : α} (ha : m[i]? = some A) (hb : m[q]? = some B) :
    ∀ k, k < n → ((m.set i B).set q A)[k]? = if k < i + 1 ∨ n < k + 1 + (i + 1) then l[n - 1 - k]? else l[k]? := by
  intro k hk
  have e1 := h i (by omega)
  have e2 := h q (by omega)
  rw [if_neg (by omega), ha] at e1
  rw [if_neg (by omega), hb] at e2
  by_cases k1 : k = q
  · subst k1
    rw [List.getElem?_set_self (by simp; omega), if_pos (by omega), e1]
    congr 1; omega
  · rw [List.getElem?_set_ne (by omega)]
    by_cases k2 : k = i
    · subst k2
      rw [List.getElem?_set_self (by omega), if_pos (by omega), e2]
      congr 1; omega
    · rw [List.getElem?_set_ne (by omega), h k hk]
      by_cases k3 : k < i ∨ n < k + 1 + i
      · rw [if_pos k3, if_pos (by omega)]
      · rw [if_neg k3, if_neg (by omega)]

/-! ### Whole numbers -/

def ofP2 (p : P2) : Rat × Rat := ((p.x : Rat), (p.y : Rat))
theorem ok_sz {p : P2} (h : p.ok = true) : Szp 1 (ofP2 p) := by
  have hx : -1000 ≤ p.x ∧ p.x ≤ 1000 ∧ -1000 ≤ p.y ∧ p.y ≤ 1000 := P2.ok_iff.1 h
  exact ⟨Sz.int (by unfold iabs; simp only [pw]; split <;> omega) (by omega), Sz.int (by unfold iabs; simp only [pw]; split <;> omega) (by omega)⟩


/-! ### Copies -/

theorem c_spec_l12All : Callable Tryz.prog 64 := ⟨_, Tryz.func64, rfl, by kernel_rfl⟩
theorem l12All_ok {es : List PV} {ps : List (Rat × Rat)} {k : Nat} (hes : es = ps.map p8) (hb : ps.length ≤ 100000) (hz : ∀ p ∈ ps, Szp k p) (hk : k ≤ 90000) (hall : ∀ p ∈ ps, okP p = true) : Does Tryz.prog 64 [.sl es] (.tup [.pv (.sl es), .pv (bl true)]) [] := by
  have hlen : es.length = ps.length := by simp [hes]
  refine Does.wkIf (c := ps.length = 0) ?_
  refine does_of hT hM Tryz.func64 rfl (D := []) (by kernel_rfl) rfl rfl rfl (fun A K hA hK => ?_)
  cbv
  refine Ar.len_ hA (fun n hn hn' => ?_)
  cbv
  refine Ar.loop_ hA (α := Bool × Int × List PV) (fun x => (n - x.2.1).toNat) (fun x => 0 ≤ x.2.1 ∧ x.2.1 ≤ n ∧ x.2.2 = es.take x.2.1.toNat ∧ (x.1 = true ↔ x.2.1 = 0)) 28 (fun x => [(4, .own 4 none), (9, .pv (.sl es) []), (10, .pv (i64 n) []), (11, .pv (i64 x.2.1) [])]) (fun x => [(4, some (.row x.2.2 8 (ruB x.1) false))]) (true, 0, []) ⟨rfl, ⟨rfl, rfl, rfl, rfl, trivial⟩, rfl, trivial⟩ ⟨by show (0 : Int) ≤ 0; omega, by show 0 ≤ n; omega, by simp, by simp⟩ ?_
  rintro ⟨fl, i, r⟩ s f ⟨h1, h2, h3, h4⟩
  simp only at h1 h2 h3 h4
  have hend : ¬ i < n → r = es := fun h => by rw [h3, List.take_of_length_le (by omega)]
  have hstep : i < n → ∃ s1 a1 t1 b1 s2 a2 t2 b2, (∀ j, j = i.toNat → es[j]? = some (ppv s1 a1 t1 b1 s2 a2 t2 b2)) ∧ es.take (i + 1).toNat = r ++ [ppv s1 a1 t1 b1 s2 a2 t2 b2] ∧ r.length ≤ 100000 ∧ Does Tryz.prog 50 [ppv s1 a1 t1 b1 s2 a2 t2 b2] (.tup [.pv (ppv s1 a1 t1 b1 s2 a2 t2 b2), .pv (bl true)]) [] := fun h => by
    obtain ⟨p, hp⟩ : ∃ p, ps[i.toNat]? = some p := ⟨ps[i.toNat]'(by omega), List.getElem?_eq_getElem _⟩
    obtain ⟨s1, a1, t1, b1, s2, a2, t2, b2, hpe, q1, q2⟩ := p8_ex p
    have hm := List.mem_of_getElem? hp
    have d1 := d_spec_l12Fits q1 q2 (hz _ hm) hk
    have hr8 : res8 p = b8 p := by unfold res8; rw [hall _ hm]; rfl
    rw [hall _ hm, hr8, rs8_eq q1 q2] at d1
    have hx : es[i.toNat]? = some (ppv s1 a1 t1 b1 s2 a2 t2 b2) := by rw [hes, List.getElem?_map, hp, ← hpe]; rfl
    refine ⟨s1, a1, t1, b1, s2, a2, t2, b2, fun j hj => by rw [hj]; exact hx, ?_, by rw [h3]; simp; omega, d1.wk⟩
    rw [show (i + 1).toNat = i.toNat + 1 by omega, List.take_add_one, hx, h3]; rfl
  clear h3 hes hz hall
  cases fl
  all_goals
    cbv
    refine Ar.lss_ hA (fun h => ?_) (fun h => ?_)
    · obtain ⟨s1, a1, t1, b1, s2, a2, t2, b2, x1, x2, x3, d⟩ := hstep h
      cbv
      refine Ar.nn_ hA (by omega) ?_
      cbv
      refine Ar.toN_ hA (fun j hj => ?_)
      cbv
      refine Ar.idx_ hA (x1 _ hj) ?_
      cbv
      refine Ar.call_ hA c_spec_l12Fits d rfl ?_
      cbv
      refine Ar.notT_ hA ?_
      cbv
      refine Ar.app_ hA (fun r' hr' => ?_)
      cbv
      refine Ar.fitsL_ hA (by rw [hr']; simp; omega) ?_
      cbv
      refine Ar.add_ hA (by omega) (fun k' hk' => ?_)
      cbv
      exact ⟨(false, k', r'), by show (n - k').toNat < (n - i).toNat; omega, ⟨by show 0 ≤ k'; omega, by show k' ≤ n; omega, by show r' = _; rw [hr', hk', x2], by show false = true ↔ k' = 0; simp; omega⟩, rfl, ⟨rfl, rfl, rfl, rfl, trivial⟩, rfl, trivial⟩
    · have he := hend (by omega)
      subst he
      cbv
      first
        | (refine hK _ _ ?_ rfl
           rw [if_neg (by have := mt h4.2 (by simp); omega)]; done)
        | (refine hK _ _ ?_ rfl
           rw [if_pos (by have := h4.1 rfl; omega)]; done)

theorem l12All_bad {es : List PV} {ps : List (Rat × Rat)} {k : Nat} (hes : es = ps.map p8) (hb : ps.length ≤ 100000) (hz : ∀ p ∈ ps, Szp k p) (hk : k ≤ 90000) (hbad : ps.all okP = false) : Does Tryz.prog 64 [.sl es] (.tup [.row [] 8 .free, .pv (bl false)]) [] := by
  have hlen : es.length = ps.length := by simp [hes]
  refine does_of hT hM Tryz.func64 rfl (D := []) (by kernel_rfl) rfl rfl rfl (fun A K hA hK => ?_)
  cbv
  refine Ar.len_ hA (fun n hn hn' => ?_)
  cbv
  refine Ar.loop_ hA (α := Bool × Int × List PV) (fun x => (n - x.2.1).toNat) (fun x => 0 ≤ x.2.1 ∧ x.2.1 ≤ n ∧ (∀ p ∈ ps.take x.2.1.toNat, okP p = true) ∧ x.2.2.length ≤ x.2.1.toNat) 28 (fun x => [(4, .own 4 none), (9, .pv (.sl es) []), (10, .pv (i64 n) []), (11, .pv (i64 x.2.1) [])]) (fun x => [(4, some (.row x.2.2 8 (ruB x.1) false))]) (true, 0, []) ⟨rfl, ⟨rfl, rfl, rfl, rfl, trivial⟩, rfl, trivial⟩ ⟨by show (0 : Int) ≤ 0; omega, by show 0 ≤ n; omega, by simp, by simp⟩ ?_
  rintro ⟨fl, i, r⟩ s f ⟨h1, h2, h3, h4⟩
  simp only at h1 h2 h3 h4
  have hend : ¬ i < n → False := fun h => by
    rw [List.take_of_length_le (by omega)] at h3
    rw [List.all_eq_true.2 h3] at hbad; cases hbad
  have hstep : i < n → ∃ s1 a1 t1 b1 s2 a2 t2 b2 s3 a3 t3 b3 s4 a4 t4 b4 B, (∀ j, j = i.toNat → es[j]? = some (ppv s1 a1 t1 b1 s2 a2 t2 b2)) ∧ (B = true → ∀ p ∈ ps.take (i + 1).toNat, okP p = true) ∧ Does Tryz.prog 50 [ppv s1 a1 t1 b1 s2 a2 t2 b2] (.tup [.pv (ppv s3 a3 t3 b3 s4 a4 t4 b4), .pv (bl B)]) [] := fun h => by
    obtain ⟨p, hp⟩ : ∃ p, ps[i.toNat]? = some p := ⟨ps[i.toNat]'(by omega), List.getElem?_eq_getElem _⟩
    obtain ⟨s1, a1, t1, b1, s2, a2, t2, b2, hpe, q1, q2⟩ := p8_ex p
    have hm := List.mem_of_getElem? hp
    have d1 := (d_spec_l12Fits q1 q2 (hz _ hm) hk).wk
    have hx : es[i.toNat]? = some (ppv s1 a1 t1 b1 s2 a2 t2 b2) := by rw [hes, List.getElem?_map, hp, ← hpe]; rfl
    refine ⟨s1, a1, t1, b1, s2, a2, t2, b2, _, _, _, _, _, _, _, _, _, fun j hj => by rw [hj]; exact hx, fun hB => ?_, d1⟩
    rw [show (i + 1).toNat = i.toNat + 1 by omega, List.take_add_one, hp]
    intro q' hq'
    simp only [Option.toList_some, List.mem_append, List.mem_singleton] at hq'
    rcases hq' with hq' | rfl
    · exact h3 q' hq'
    · exact hB
  clear h3 hes hz hbad
  cases fl
  all_goals
    cbv
    refine Ar.lss_ hA (fun h => ?_) (fun h => (hend (by omega)).elim)
    obtain ⟨s1, a1, t1, b1, s2, a2, t2, b2, s3, a3, t3, b3, s4, a4, t4, b4, B, x1, x2, d⟩ := hstep h
    cbv
    refine Ar.nn_ hA (by omega) ?_
    cbv
    refine Ar.toN_ hA (fun j hj => ?_)
    cbv
    refine Ar.idx_ hA (x1 _ hj) ?_
    cbv
    cases B
    · refine Ar.call_ hA c_spec_l12Fits d rfl ?_
      cbv
      refine Ar.notF_ hA ?_
      cbv
      exact hK _ _ rfl rfl
    · refine Ar.call_ hA c_spec_l12Fits d rfl ?_
      cbv
      refine Ar.notT_ hA ?_
      cbv
      refine Ar.app_ hA (fun r' hr' => ?_)
      cbv
      refine Ar.fitsL_ hA (by rw [hr']; simp; omega) ?_
      cbv
      refine Ar.add_ hA (by omega) (fun k' hk' => ?_)
      cbv
      exact ⟨(false, k', r'), by show (n - k').toNat < (n - i).toNat; omega, ⟨by show 0 ≤ k'; omega, by show k' ≤ n; omega, by rw [hk']; exact x2 rfl, by show r'.length ≤ k'.toNat; rw [hr']; simp; omega⟩, rfl, ⟨rfl, rfl, rfl, rfl, trivial⟩, rfl, trivial⟩

end Go.VAI
