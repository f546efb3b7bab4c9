/- GuardsOf of both, and the law. -/
import Derived.Test.YtjkcnepcppljpaaEI
namespace Go.VAI
open Go.Proofs
set_option maxRecDepth 100000
set_option maxHeartbeats 8000000

def ownTo (cs : List Int) (c : Int) (i : Nat) : List Nat := (List.range i).filter fun j => decide (cs[j]? = some c)
def pick2 (best own : List Nat) : List Nat := if own.length < best.length then own else best
def pickS (best own : List Nat) : List Nat := if own.length ≤ best.length then own else best
def ownF (cs : List Int) (c : Int) : List Nat := ownTo cs c cs.length
def bestI (cs : List Int) : Nat → List Nat
  | 0 => []
  | 1 => ownF cs 0
  | k + 2 => pick2 (bestI cs (k + 1)) (ownF cs ((k + 1 : Nat) : Int))
def bestS (cs : List Int) : Nat → List Nat
  | 0 => pickS (pickS (ownF cs 2) (ownF cs 1)) (ownF cs 0)
  | 1 => pickS (ownF cs 2) (ownF cs 1)
  | 2 => ownF cs 2
  | _ => []
def guardF (cs : List Int) : List Nat := bestI cs 3
theorem guardS (cs : List Int) : bestS cs 0 = guardF cs := by
  show pickS (pickS (ownF cs 2) (ownF cs 1)) (ownF cs 0) = pick2 (pick2 (ownF cs 0) (ownF cs 1)) (ownF cs 2)
  unfold pickS pick2
  generalize ownF cs 0 = a
  generalize ownF cs 1 = b
  generalize ownF cs 2 = c
  by_cases h1 : b.length ≤ c.length <;> by_cases h2 : a.length ≤ b.length <;> by_cases h3 : a.length ≤ c.length <;> by_cases h4 : b.length < a.length <;> by_cases h5 : c.length < a.length <;> by_cases h6 : c.length < b.length <;> simp [h1, h2, h3, h4, h5, h6] <;> omega
theorem bestI_next {cs : List Int} {k : Nat} {c : Int} (h0 : 0 < k) (hc : c = (k : Int)) : bestI cs (k + 1) = pick2 (bestI cs k) (ownF cs c) := by
  obtain ⟨m, rfl⟩ : ∃ m, k = m + 1 := ⟨k - 1, by omega⟩
  rw [hc]; rfl
theorem ownTo_len (cs : List Int) (c : Int) (i : Nat) : (ownTo cs c i).length ≤ i := by
  unfold ownTo
  exact Nat.le_trans (List.length_filter_le _ _) (by simp)
theorem ownTo_yes {cs : List Int} {c x k : Int} {r r' : List PV} {i : Nat} (hr : r = (ownTo cs c i).map nI) (hx : cs[i]? = some x) (he : x = c) (hk : 0 ≤ k ∧ k.toNat = i) (h : r' = r ++ [i64 k]) : r' = (ownTo cs c (i + 1)).map nI := by
  unfold ownTo at *
  have e : [i].filter (fun j => decide (cs[j]? = some c)) = [i] := by simp [hx, he]
  rw [h, hr, List.range_succ, List.filter_append, List.map_append, e]
  show _ = _ ++ [i64 (i : Int)]
  rw [← hk.2, Int.toNat_of_nonneg hk.1]
theorem ownTo_no {cs : List Int} {c x : Int} {r : List PV} {i : Nat} (hr : r = (ownTo cs c i).map nI) (hx : cs[i]? = some x) (he : x ≠ c) : r = (ownTo cs c (i + 1)).map nI := by
  unfold ownTo at *
  have e : [i].filter (fun j => decide (cs[j]? = some c)) = [] := by simp [hx, he]
  rw [hr, List.range_succ, List.filter_append, e, List.append_nil]
theorem bestI_len (cs : List Int) (k : Nat) : (bestI cs k).length ≤ cs.length := by
  induction k with
  | zero => simp [bestI]
  | succ k ih =>
    cases k with
    | zero => exact ownTo_len _ _ _
    | succ k =>
      show (pick2 _ _).length ≤ _
      unfold pick2
      split
      · exact ownTo_len _ _ _
      · exact ih
theorem bestS_len (cs : List Int) (k : Nat) : (bestS cs k).length ≤ cs.length := by
  have o := fun c => ownTo_len cs c cs.length
  match k with
  | 0 =>
    show (pickS (pickS (ownF cs 2) (ownF cs 1)) (ownF cs 0)).length ≤ _
    unfold pickS
    (repeat' split) <;> exact o _
  | 1 =>
    show (pickS (ownF cs 2) (ownF cs 1)).length ≤ _
    unfold pickS
    split <;> exact o _
  | 2 => exact o _
  | k + 3 => show ([] : List Nat).length ≤ _; simp
def guardR (l : List P2) : List Nat := if galF l then guardF (colR l) else []
theorem guardR_len {l : List P2} : (guardR l).length ≤ 12 := by
  unfold guardR
  split
  · exact Nat.le_trans (bestI_len _ _) colR_len
  · simp

theorem c_impl_GuardsOf : Callable Try.prog 24 := ⟨_, Try.func24, rfl, by kernel_rfl⟩
theorem d_impl_GuardsOf {es : List PV} {l : List P2} (hes : es = l.map P2.pv) (hb : l.length ≤ 1048576) : Does Try.prog 24 [.sl es] (.tup [.row ((guardR l).map nI) 1 .free, .pv (bl (galF l))]) [] := by
  refine does_of hT hM Try.func24 rfl (D := []) (by kernel_rfl) rfl rfl rfl (fun A K hA hK => ?_)
  have dC := d_impl_ColourThree hes hb
  cases hgal : galF l with
  | false =>
    rw [hgal] at hK
    rw [hgal, colR, hgal] at dC
    have hK2 : K (.tup [.row [] 1 .free, .pv (bl false)]) [] := hK _ _ (by rw [guardR, hgal]; rfl) rfl
    clear hK
    cbv
    refine Ar.call_ hA c_impl_ColourThree dC rfl ?_
    cbv
    refine Ar.notF_ hA ?_
    cbv
    exact hK2
  | true =>
  have hcl := colR_len (l := l)
  rw [hgal] at dC
  rw [hgal, guardR, hgal, if_pos rfl] at hK
  generalize colR l = cs at dC hcl hK
  obtain ⟨rc, hrc⟩ : ∃ rc, rc = cs.map i64 := ⟨_, rfl⟩
  rw [← hrc] at dC
  have hrcl : rc.length = cs.length := by rw [hrc]; simp
  have hfin := fun r (hr : r = (guardF cs).map nI) => hK (.tup [.row r 1 .free, .pv (bl true)]) [] (by rw [hr]) rfl
  clear hK
  cbv
  refine Ar.call_ hA c_impl_ColourThree dC rfl ?_
  cbv
  refine Ar.notT_ hA ?_
  cbv
  refine Ar.loop_ hA (α := Int × Nat × List PV) (fun x => (3 - x.1).toNat) (fun (c, id, b) => 0 ≤ c ∧ c ≤ 3 ∧ (c = 0 ∧ id = 18 ∨ 0 < c ∧ id = 22 ∨ 0 < c ∧ id = 2070) ∧ b = (bestI cs c.toNat).map nI) 50 (fun (c, id, _) => [(4, .own 13 none), (6, .own id none), (19, .pv (i64 c) [])]) (fun (_, id, b) => [(13, some (.row rc 1 .free false)), (id, some (.row b 1 .free false))]) (0, 18, []) (by refine ⟨?_, ⟨?_, ?_, ?_, trivial⟩, ?_, ?_, trivial⟩ <;> cbv) ⟨by omega, by omega, .inl ⟨rfl, rfl⟩, rfl⟩ ?_
  intro ⟨c, id, b⟩ s f ⟨h1, h2, h3, h4⟩
  have hbl : b.length ≤ 12 := by rw [h4, List.length_map]; have := bestI_len cs c.toNat; omega
  have hn0 : c = 0 → bestI cs (c + 1).toNat = ownF cs c := fun e => by subst e; rfl
  have hn1 : 0 < c → bestI cs (c + 1).toNat = pick2 (bestI cs c.toNat) (ownF cs c) := fun e => by rw [show (c + 1).toNat = c.toNat + 1 by omega]; exact bestI_next (by omega) (by omega)
  have hend : c = 3 → b = (guardF cs).map nI := fun e => by rw [h4, e]; rfl
  rcases h3 with ⟨hc, rfl⟩ | ⟨hc, rfl⟩ | ⟨hc, rfl⟩
  · cbv
    refine Ar.lss_ hA (fun h => ?_) (fun h => ?_)
    · cbv
      refine Ar.len_ hA (fun n hn hn' => ?_)
      cbv
      refine Ar.loop_ hA (α := Int × List PV) (fun x => (n - x.1).toNat) (fun (i, o) => 0 ≤ i ∧ i ≤ n ∧ o = (ownTo cs c i.toNat).map nI) 50 (fun (i, _) => [(4, .own 13 none), (6, .own 18 none), (7, .pv (i64 c) []), (8, .own 22 none), (19, .pv (i64 c) []), (23, .own 13 none), (24, .pv (i64 n) []), (25, .pv (i64 i) [])]) (fun (_, o) => [(13, some (.row rc 1 .free false)), (18, some (.row b 1 .free false)), (22, some (.row o 1 .free false))]) (0, []) (by refine ⟨?_, ⟨?_, ?_, ?_, ?_, ?_, ?_, ?_, ?_, trivial⟩, ?_, ?_, ?_, trivial⟩ <;> cbv) ⟨by omega, by omega, rfl⟩ ?_
      intro ⟨i, o⟩ s f ⟨i1, i2, i3⟩
      have hol : o.length ≤ 12 := by rw [i3, List.length_map]; have := ownTo_len cs c i.toNat; omega
      cbv
      refine Ar.lss_ hA (fun g => ?_) (fun g => ?_)
      · obtain ⟨x, hx⟩ : ∃ x, cs[i.toNat]? = some x := ⟨_, List.getElem?_eq_getElem (by omega)⟩
        have ex : rc[i.toNat]? = some (i64 x) := by rw [hrc, List.getElem?_map, hx]; rfl
        cbv
        repeat' (first
          | (refine Ar.nn_ hA i1 ?_; cbv)
          | (refine Ar.toN_ hA (fun j hj => ?_); cbv)
          | (refine Ar.idx_ hA (x := i64 x) (by rw [show j = i.toNat by omega]; exact ex) ?_; cbv))
        refine Ar.eql_ hA (fun he => ?_) (fun he => ?_)
        · cbv
          refine Ar.app_ hA (fun o' ho' => ?_)
          cbv
          refine Ar.fitsL_ hA (by rw [ho', List.length_append]; simp only [List.length_singleton]; omega) ?_
          cbv
          refine Ar.add_ hA (by omega) (fun i' hi' => ?_)
          cbv
          refine ⟨(i', o'), (by show (n - i').toNat < (n - i).toNat; omega), ⟨by omega, by omega, by rw [show i'.toNat = i.toNat + 1 by omega]; exact ownTo_yes i3 hx he ⟨i1, rfl⟩ ho'⟩, (by refine ⟨?_, ⟨?_, ?_, ?_, ?_, ?_, ?_, ?_, ?_, trivial⟩, ?_, ?_, ?_, trivial⟩ <;> cbv)⟩
        · cbv
          refine Ar.add_ hA (by omega) (fun i' hi' => ?_)
          cbv
          refine ⟨(i', o), (by show (n - i').toNat < (n - i).toNat; omega), ⟨by omega, by omega, by rw [show i'.toNat = i.toNat + 1 by omega]; exact ownTo_no i3 hx he⟩, (by refine ⟨?_, ⟨?_, ?_, ?_, ?_, ?_, ?_, ?_, ?_, trivial⟩, ?_, ?_, ?_, trivial⟩ <;> cbv)⟩
      · have io : o = (ownF cs c).map nI := by rw [i3, show i.toNat = cs.length by omega]; rfl
        have lo : o.length = (ownF cs c).length := by rw [io, List.length_map]
        have lb : b.length = (bestI cs c.toNat).length := by rw [h4, List.length_map]
        have hn := hn0 hc
        clear hn0 hn1
        cbv
        refine Ar.eql_ hA (fun _ => ?_) (fun e => absurd hc e)
        cbv
        refine Ar.add_ hA (by omega) (fun c' hc' => ?_)
        cbv
        refine ⟨(c', 22, o), (by show (3 - c').toNat < (3 - c).toNat; omega), ⟨by omega, by omega, .inr (.inl ⟨by omega, rfl⟩), by rw [hc', hn]; exact io⟩, (by refine ⟨?_, ⟨?_, ?_, ?_, trivial⟩, ?_, ?_, trivial⟩ <;> cbv)⟩
    · exact absurd h (by omega)
  · cbv
    refine Ar.lss_ hA (fun h => ?_) (fun h => ?_)
    · cbv
      refine Ar.len_ hA (fun n hn hn' => ?_)
      cbv
      refine Ar.loop_ hA (α := Int × List PV) (fun x => (n - x.1).toNat) (fun (i, o) => 0 ≤ i ∧ i ≤ n ∧ o = (ownTo cs c i.toNat).map nI) 50 (fun (i, _) => [(4, .own 13 none), (6, .own 2070 none), (7, .pv (i64 c) []), (8, .own 22 none), (19, .pv (i64 c) []), (23, .own 13 none), (24, .pv (i64 n) []), (25, .pv (i64 i) [])]) (fun (_, o) => [(13, some (.row rc 1 .free false)), (2070, some (.row b 1 .free false)), (22, some (.row o 1 .free false))]) (0, []) (by refine ⟨?_, ⟨?_, ?_, ?_, ?_, ?_, ?_, ?_, ?_, trivial⟩, ?_, ?_, ?_, trivial⟩ <;> cbv) ⟨by omega, by omega, rfl⟩ ?_
      intro ⟨i, o⟩ s f ⟨i1, i2, i3⟩
      have hol : o.length ≤ 12 := by rw [i3, List.length_map]; have := ownTo_len cs c i.toNat; omega
      cbv
      refine Ar.lss_ hA (fun g => ?_) (fun g => ?_)
      · obtain ⟨x, hx⟩ : ∃ x, cs[i.toNat]? = some x := ⟨_, List.getElem?_eq_getElem (by omega)⟩
        have ex : rc[i.toNat]? = some (i64 x) := by rw [hrc, List.getElem?_map, hx]; rfl
        cbv
        repeat' (first
          | (refine Ar.nn_ hA i1 ?_; cbv)
          | (refine Ar.toN_ hA (fun j hj => ?_); cbv)
          | (refine Ar.idx_ hA (x := i64 x) (by rw [show j = i.toNat by omega]; exact ex) ?_; cbv))
        refine Ar.eql_ hA (fun he => ?_) (fun he => ?_)
        · cbv
          refine Ar.app_ hA (fun o' ho' => ?_)
          cbv
          refine Ar.fitsL_ hA (by rw [ho', List.length_append]; simp only [List.length_singleton]; omega) ?_
          cbv
          refine Ar.add_ hA (by omega) (fun i' hi' => ?_)
          cbv
          refine ⟨(i', o'), (by show (n - i').toNat < (n - i).toNat; omega), ⟨by omega, by omega, by rw [show i'.toNat = i.toNat + 1 by omega]; exact ownTo_yes i3 hx he ⟨i1, rfl⟩ ho'⟩, (by refine ⟨?_, ⟨?_, ?_, ?_, ?_, ?_, ?_, ?_, ?_, trivial⟩, ?_, ?_, ?_, trivial⟩ <;> cbv)⟩
        · cbv
          refine Ar.add_ hA (by omega) (fun i' hi' => ?_)
          cbv
          refine ⟨(i', o), (by show (n - i').toNat < (n - i).toNat; omega), ⟨by omega, by omega, by rw [show i'.toNat = i.toNat + 1 by omega]; exact ownTo_no i3 hx he⟩, (by refine ⟨?_, ⟨?_, ?_, ?_, ?_, ?_, ?_, ?_, ?_, trivial⟩, ?_, ?_, ?_, trivial⟩ <;> cbv)⟩
      · have io : o = (ownF cs c).map nI := by rw [i3, show i.toNat = cs.length by omega]; rfl
        have lo : o.length = (ownF cs c).length := by rw [io, List.length_map]
        have lb : b.length = (bestI cs c.toNat).length := by rw [h4, List.length_map]
        have hn := hn1 hc
        unfold pick2 at hn
        rw [← lo, ← lb] at hn
        clear hn0 hn1
        cbv
        refine Ar.eql_ hA (fun e => absurd e (by omega)) (fun _ => ?_)
        cbv
        refine Ar.len_ hA (fun m1 hm1 hm1' => ?_)
        cbv
        refine Ar.len_ hA (fun m2 hm2 hm2' => ?_)
        cbv
        refine Ar.lss_ hA (fun g2 => ?_) (fun g2 => ?_)
        · rw [if_pos (by omega)] at hn
          cbv
          refine Ar.add_ hA (by omega) (fun c' hc' => ?_)
          cbv
          refine ⟨(c', 22, o), (by show (3 - c').toNat < (3 - c).toNat; omega), ⟨by omega, by omega, .inr (.inl ⟨by omega, rfl⟩), by rw [hc', hn]; exact io⟩, (by refine ⟨?_, ⟨?_, ?_, ?_, trivial⟩, ?_, ?_, trivial⟩ <;> cbv)⟩
        · rw [if_neg (by omega)] at hn
          cbv
          refine Ar.add_ hA (by omega) (fun c' hc' => ?_)
          cbv
          refine ⟨(c', 2070, b), (by show (3 - c').toNat < (3 - c).toNat; omega), ⟨by omega, by omega, .inr (.inr ⟨by omega, rfl⟩), by rw [hc', hn]; exact h4⟩, (by refine ⟨?_, ⟨?_, ?_, ?_, trivial⟩, ?_, ?_, trivial⟩ <;> cbv)⟩
    · have hf := hfin b (hend (by omega))
      cbv
      exact hf
  · cbv
    refine Ar.lss_ hA (fun h => ?_) (fun h => ?_)
    · cbv
      refine Ar.len_ hA (fun n hn hn' => ?_)
      cbv
      refine Ar.loop_ hA (α := Int × List PV) (fun x => (n - x.1).toNat) (fun (i, o) => 0 ≤ i ∧ i ≤ n ∧ o = (ownTo cs c i.toNat).map nI) 50 (fun (i, _) => [(4, .own 13 none), (6, .own 2070 none), (7, .pv (i64 c) []), (8, .own 22 none), (19, .pv (i64 c) []), (23, .own 13 none), (24, .pv (i64 n) []), (25, .pv (i64 i) [])]) (fun (_, o) => [(13, some (.row rc 1 .free false)), (2070, some (.row b 1 .free false)), (22, some (.row o 1 .free false))]) (0, []) (by refine ⟨?_, ⟨?_, ?_, ?_, ?_, ?_, ?_, ?_, ?_, trivial⟩, ?_, ?_, ?_, trivial⟩ <;> cbv) ⟨by omega, by omega, rfl⟩ ?_
      intro ⟨i, o⟩ s f ⟨i1, i2, i3⟩
      have hol : o.length ≤ 12 := by rw [i3, List.length_map]; have := ownTo_len cs c i.toNat; omega
      cbv
      refine Ar.lss_ hA (fun g => ?_) (fun g => ?_)
      · obtain ⟨x, hx⟩ : ∃ x, cs[i.toNat]? = some x := ⟨_, List.getElem?_eq_getElem (by omega)⟩
        have ex : rc[i.toNat]? = some (i64 x) := by rw [hrc, List.getElem?_map, hx]; rfl
        cbv
        repeat' (first
          | (refine Ar.nn_ hA i1 ?_; cbv)
          | (refine Ar.toN_ hA (fun j hj => ?_); cbv)
          | (refine Ar.idx_ hA (x := i64 x) (by rw [show j = i.toNat by omega]; exact ex) ?_; cbv))
        refine Ar.eql_ hA (fun he => ?_) (fun he => ?_)
        · cbv
          refine Ar.app_ hA (fun o' ho' => ?_)
          cbv
          refine Ar.fitsL_ hA (by rw [ho', List.length_append]; simp only [List.length_singleton]; omega) ?_
          cbv
          refine Ar.add_ hA (by omega) (fun i' hi' => ?_)
          cbv
          refine ⟨(i', o'), (by show (n - i').toNat < (n - i).toNat; omega), ⟨by omega, by omega, by rw [show i'.toNat = i.toNat + 1 by omega]; exact ownTo_yes i3 hx he ⟨i1, rfl⟩ ho'⟩, (by refine ⟨?_, ⟨?_, ?_, ?_, ?_, ?_, ?_, ?_, ?_, trivial⟩, ?_, ?_, ?_, trivial⟩ <;> cbv)⟩
        · cbv
          refine Ar.add_ hA (by omega) (fun i' hi' => ?_)
          cbv
          refine ⟨(i', o), (by show (n - i').toNat < (n - i).toNat; omega), ⟨by omega, by omega, by rw [show i'.toNat = i.toNat + 1 by omega]; exact ownTo_no i3 hx he⟩, (by refine ⟨?_, ⟨?_, ?_, ?_, ?_, ?_, ?_, ?_, ?_, trivial⟩, ?_, ?_, ?_, trivial⟩ <;> cbv)⟩
      · have io : o = (ownF cs c).map nI := by rw [i3, show i.toNat = cs.length by omega]; rfl
        have lo : o.length = (ownF cs c).length := by rw [io, List.length_map]
        have lb : b.length = (bestI cs c.toNat).length := by rw [h4, List.length_map]
        have hn := hn1 hc
        unfold pick2 at hn
        rw [← lo, ← lb] at hn
        clear hn0 hn1
        cbv
        refine Ar.eql_ hA (fun e => absurd e (by omega)) (fun _ => ?_)
        cbv
        refine Ar.len_ hA (fun m1 hm1 hm1' => ?_)
        cbv
        refine Ar.len_ hA (fun m2 hm2 hm2' => ?_)
        cbv
        refine Ar.lss_ hA (fun g2 => ?_) (fun g2 => ?_)
        · rw [if_pos (by omega)] at hn
          cbv
          refine Ar.add_ hA (by omega) (fun c' hc' => ?_)
          cbv
          refine ⟨(c', 22, o), (by show (3 - c').toNat < (3 - c).toNat; omega), ⟨by omega, by omega, .inr (.inl ⟨by omega, rfl⟩), by rw [hc', hn]; exact io⟩, (by refine ⟨?_, ⟨?_, ?_, ?_, trivial⟩, ?_, ?_, trivial⟩ <;> cbv)⟩
        · rw [if_neg (by omega)] at hn
          cbv
          refine Ar.add_ hA (by omega) (fun c' hc' => ?_)
          cbv
          refine ⟨(c', 2070, b), (by show (3 - c').toNat < (3 - c).toNat; omega), ⟨by omega, by omega, .inr (.inr ⟨by omega, rfl⟩), by rw [hc', hn]; exact h4⟩, (by refine ⟨?_, ⟨?_, ?_, ?_, trivial⟩, ?_, ?_, trivial⟩ <;> cbv)⟩
    · have hf := hfin b (hend (by omega))
      cbv
      exact hf

theorem c_spec_GuardsOf : Callable Try.prog 23 := ⟨_, Try.func23, rfl, by kernel_rfl⟩
theorem d_spec_GuardsOf {es : List PV} {l : List P2} (hes : es = l.map P2.pv) (hb : l.length ≤ 1048576) : Does Try.prog 23 [.sl es] (.tup [.row ((guardR l).map nI) 1 .free, .pv (bl (galF l))]) [] := by
  refine does_of hT hM Try.func23 rfl (D := []) (by kernel_rfl) rfl rfl rfl (fun A K hA hK => ?_)
  cases hgal : galF l with
  | false =>
    rw [hgal] at hK
    have hK2 : K (.tup [.row [] 1 .free, .pv (bl false)]) [] := hK _ _ (by rw [guardR, hgal]; rfl) rfl
    clear hK
    cbv
    refine Ar.callT hA c_spec_l11Simple (d_spec_l11Simple hes hb) rfl (fun hc => ?_) (fun hc => ?_)
    · rw [hgal] at hc; cases hc
    cbv
    refine Ar.notF_ hA ?_
    cbv
    exact hK2
  | true =>
  have hcl := colR_len (l := l)
  have dC := d_spec_l11Colour hes hgal
  have eC : colL l.length (cutR l) = colR l := by unfold colR; rw [if_pos hgal]
  rw [eC] at dC
  rw [hgal, guardR, hgal, if_pos rfl] at hK
  generalize colR l = cs at dC hcl hK
  clear eC
  obtain ⟨rc, hrc⟩ : ∃ rc, rc = cs.map i64 := ⟨_, rfl⟩
  rw [← hrc] at dC
  have hrcl : rc.length = cs.length := by rw [hrc]; simp
  have hfin := fun r (hr : r = (guardF cs).map nI) => hK (.tup [.row r 1 .free, .pv (bl true)]) [] (by rw [hr]) rfl
  clear hK
  cbv
  refine Ar.callT hA c_spec_l11Simple (d_spec_l11Simple hes hb) rfl (fun hc => ?_) (fun hc => ?_)
  rotate_left
  · rw [hgal] at hc; cases hc
  cbv
  refine Ar.notT_ hA ?_
  cbv
  refine Ar.call_ hA c_spec_l11Colour dC rfl ?_
  cbv
  refine Ar.loop_ hA (α := Int × Nat × List PV) (fun x => (x.1 + 1).toNat) (fun (c, id, b) => -1 ≤ c ∧ c ≤ 2 ∧ (c = 2 ∧ id = 5 ∨ c < 2 ∧ id = 7 ∨ c < 2 ∧ id = 2055) ∧ b = (bestS cs (c + 1).toNat).map nI) 45 (fun (c, id, _) => [(4, .own 14 none), (5, .own id none), (6, .pv (i64 c) [])]) (fun (_, id, b) => [(14, some (.row rc 1 .free false)), (id, some (.row b 1 .free false))]) (2, 5, []) (by refine ⟨?_, ⟨?_, ?_, ?_, trivial⟩, ?_, ?_, trivial⟩ <;> cbv) ⟨by omega, by omega, .inl ⟨rfl, rfl⟩, rfl⟩ ?_
  intro ⟨c, id, b⟩ s f ⟨h1, h2, h3, h4⟩
  have hbl : b.length ≤ 12 := by rw [h4, List.length_map]; have := bestS_len cs (c + 1).toNat; omega
  have hn0 : c = 2 → bestS cs c.toNat = ownF cs c := fun e => by subst e; rfl
  have hn1 : 0 ≤ c → c < 2 → bestS cs c.toNat = pickS (bestS cs (c + 1).toNat) (ownF cs c) := fun e e2 => by
    rcases (show c = 0 ∨ c = 1 by omega) with rfl | rfl <;> rfl
  have hend : c = -1 → b = (guardF cs).map nI := fun e => by rw [h4, e, ← guardS]; rfl
  rcases h3 with ⟨hc, rfl⟩ | ⟨hc, rfl⟩ | ⟨hc, rfl⟩
  · cbv
    refine Ar.geq_ hA (fun h => ?_) (fun h => ?_)
    · cbv
      refine Ar.len_ hA (fun n hn hn' => ?_)
      cbv
      refine Ar.loop_ hA (α := Int × List PV) (fun x => (n - x.1).toNat) (fun (i, o) => 0 ≤ i ∧ i ≤ n ∧ o = (ownTo cs c i.toNat).map nI) 45 (fun (i, _) => [(4, .own 14 none), (5, .own 5 none), (6, .pv (i64 c) []), (7, .own 7 none), (19, .own 14 none), (20, .pv (i64 n) []), (21, .pv (i64 i) [])]) (fun (_, o) => [(14, some (.row rc 1 .free false)), (5, some (.row b 1 .free false)), (7, some (.row o 1 .free false))]) (0, []) (by refine ⟨?_, ⟨?_, ?_, ?_, ?_, ?_, ?_, ?_, trivial⟩, ?_, ?_, ?_, trivial⟩ <;> cbv) ⟨by omega, by omega, rfl⟩ ?_
      intro ⟨i, o⟩ s f ⟨i1, i2, i3⟩
      have hol : o.length ≤ 12 := by rw [i3, List.length_map]; have := ownTo_len cs c i.toNat; omega
      cbv
      refine Ar.lss_ hA (fun g => ?_) (fun g => ?_)
      · obtain ⟨x, hx⟩ : ∃ x, cs[i.toNat]? = some x := ⟨_, List.getElem?_eq_getElem (by omega)⟩
        have ex : rc[i.toNat]? = some (i64 x) := by rw [hrc, List.getElem?_map, hx]; rfl
        cbv
        repeat' (first
          | (refine Ar.nn_ hA i1 ?_; cbv)
          | (refine Ar.toN_ hA (fun j hj => ?_); cbv)
          | (refine Ar.idx_ hA (x := i64 x) (by rw [show j = i.toNat by omega]; exact ex) ?_; cbv))
        refine Ar.eql_ hA (fun he => ?_) (fun he => ?_)
        · cbv
          refine Ar.app_ hA (fun o' ho' => ?_)
          cbv
          refine Ar.fitsL_ hA (by rw [ho', List.length_append]; simp only [List.length_singleton]; omega) ?_
          cbv
          refine Ar.add_ hA (by omega) (fun i' hi' => ?_)
          cbv
          refine ⟨(i', o'), (by show (n - i').toNat < (n - i).toNat; omega), ⟨by omega, by omega, by rw [show i'.toNat = i.toNat + 1 by omega]; exact ownTo_yes i3 hx he ⟨i1, rfl⟩ ho'⟩, (by refine ⟨?_, ⟨?_, ?_, ?_, ?_, ?_, ?_, ?_, trivial⟩, ?_, ?_, ?_, trivial⟩ <;> cbv)⟩
        · cbv
          refine Ar.add_ hA (by omega) (fun i' hi' => ?_)
          cbv
          refine ⟨(i', o), (by show (n - i').toNat < (n - i).toNat; omega), ⟨by omega, by omega, by rw [show i'.toNat = i.toNat + 1 by omega]; exact ownTo_no i3 hx he⟩, (by refine ⟨?_, ⟨?_, ?_, ?_, ?_, ?_, ?_, ?_, trivial⟩, ?_, ?_, ?_, trivial⟩ <;> cbv)⟩
      · have io : o = (ownF cs c).map nI := by rw [i3, show i.toNat = cs.length by omega]; rfl
        have lo : o.length = (ownF cs c).length := by rw [io, List.length_map]
        have lb : b.length = (bestS cs (c + 1).toNat).length := by rw [h4, List.length_map]
        have hn := hn0 hc
        clear hn0 hn1
        cbv
        refine Ar.eql_ hA (fun _ => ?_) (fun e => absurd hc e)
        cbv
        refine Ar.sub_ hA (by omega) (fun c' hc' => ?_)
        cbv
        refine ⟨(c', 7, o), (by show (c' + 1).toNat < (c + 1).toNat; omega), ⟨by omega, by omega, .inr (.inl ⟨by omega, rfl⟩), by rw [show c' + 1 = c by omega, hn]; exact io⟩, (by refine ⟨?_, ⟨?_, ?_, ?_, trivial⟩, ?_, ?_, trivial⟩ <;> cbv)⟩
    · exact absurd h (by omega)
  · cbv
    refine Ar.geq_ hA (fun h => ?_) (fun h => ?_)
    · cbv
      refine Ar.len_ hA (fun n hn hn' => ?_)
      cbv
      refine Ar.loop_ hA (α := Int × List PV) (fun x => (n - x.1).toNat) (fun (i, o) => 0 ≤ i ∧ i ≤ n ∧ o = (ownTo cs c i.toNat).map nI) 45 (fun (i, _) => [(4, .own 14 none), (5, .own 2055 none), (6, .pv (i64 c) []), (7, .own 7 none), (19, .own 14 none), (20, .pv (i64 n) []), (21, .pv (i64 i) [])]) (fun (_, o) => [(14, some (.row rc 1 .free false)), (2055, some (.row b 1 .free false)), (7, some (.row o 1 .free false))]) (0, []) (by refine ⟨?_, ⟨?_, ?_, ?_, ?_, ?_, ?_, ?_, trivial⟩, ?_, ?_, ?_, trivial⟩ <;> cbv) ⟨by omega, by omega, rfl⟩ ?_
      intro ⟨i, o⟩ s f ⟨i1, i2, i3⟩
      have hol : o.length ≤ 12 := by rw [i3, List.length_map]; have := ownTo_len cs c i.toNat; omega
      cbv
      refine Ar.lss_ hA (fun g => ?_) (fun g => ?_)
      · obtain ⟨x, hx⟩ : ∃ x, cs[i.toNat]? = some x := ⟨_, List.getElem?_eq_getElem (by omega)⟩
        have ex : rc[i.toNat]? = some (i64 x) := by rw [hrc, List.getElem?_map, hx]; rfl
        cbv
        repeat' (first
          | (refine Ar.nn_ hA i1 ?_; cbv)
          | (refine Ar.toN_ hA (fun j hj => ?_); cbv)
          | (refine Ar.idx_ hA (x := i64 x) (by rw [show j = i.toNat by omega]; exact ex) ?_; cbv))
        refine Ar.eql_ hA (fun he => ?_) (fun he => ?_)
        · cbv
          refine Ar.app_ hA (fun o' ho' => ?_)
          cbv
          refine Ar.fitsL_ hA (by rw [ho', List.length_append]; simp only [List.length_singleton]; omega) ?_
          cbv
          refine Ar.add_ hA (by omega) (fun i' hi' => ?_)
          cbv
          refine ⟨(i', o'), (by show (n - i').toNat < (n - i).toNat; omega), ⟨by omega, by omega, by rw [show i'.toNat = i.toNat + 1 by omega]; exact ownTo_yes i3 hx he ⟨i1, rfl⟩ ho'⟩, (by refine ⟨?_, ⟨?_, ?_, ?_, ?_, ?_, ?_, ?_, trivial⟩, ?_, ?_, ?_, trivial⟩ <;> cbv)⟩
        · cbv
          refine Ar.add_ hA (by omega) (fun i' hi' => ?_)
          cbv
          refine ⟨(i', o), (by show (n - i').toNat < (n - i).toNat; omega), ⟨by omega, by omega, by rw [show i'.toNat = i.toNat + 1 by omega]; exact ownTo_no i3 hx he⟩, (by refine ⟨?_, ⟨?_, ?_, ?_, ?_, ?_, ?_, ?_, trivial⟩, ?_, ?_, ?_, trivial⟩ <;> cbv)⟩
      · have io : o = (ownF cs c).map nI := by rw [i3, show i.toNat = cs.length by omega]; rfl
        have lo : o.length = (ownF cs c).length := by rw [io, List.length_map]
        have lb : b.length = (bestS cs (c + 1).toNat).length := by rw [h4, List.length_map]
        have hn := hn1 h hc
        unfold pickS at hn
        rw [← lo, ← lb] at hn
        clear hn0 hn1
        cbv
        refine Ar.eql_ hA (fun e => absurd e (by omega)) (fun _ => ?_)
        cbv
        refine Ar.len_ hA (fun m1 hm1 hm1' => ?_)
        cbv
        refine Ar.len_ hA (fun m2 hm2 hm2' => ?_)
        cbv
        refine Ar.leq_ hA (fun g2 => ?_) (fun g2 => ?_)
        · rw [if_pos (by omega)] at hn
          cbv
          refine Ar.sub_ hA (by omega) (fun c' hc' => ?_)
          cbv
          refine ⟨(c', 7, o), (by show (c' + 1).toNat < (c + 1).toNat; omega), ⟨by omega, by omega, .inr (.inl ⟨by omega, rfl⟩), by rw [show c' + 1 = c by omega, hn]; exact io⟩, (by refine ⟨?_, ⟨?_, ?_, ?_, trivial⟩, ?_, ?_, trivial⟩ <;> cbv)⟩
        · rw [if_neg (by omega)] at hn
          cbv
          refine Ar.sub_ hA (by omega) (fun c' hc' => ?_)
          cbv
          refine ⟨(c', 2055, b), (by show (c' + 1).toNat < (c + 1).toNat; omega), ⟨by omega, by omega, .inr (.inr ⟨by omega, rfl⟩), by rw [show c' + 1 = c by omega, hn]; exact h4⟩, (by refine ⟨?_, ⟨?_, ?_, ?_, trivial⟩, ?_, ?_, trivial⟩ <;> cbv)⟩
    · have hf := hfin b (hend (by omega))
      cbv
      exact hf
  · cbv
    refine Ar.geq_ hA (fun h => ?_) (fun h => ?_)
    · cbv
      refine Ar.len_ hA (fun n hn hn' => ?_)
      cbv
      refine Ar.loop_ hA (α := Int × List PV) (fun x => (n - x.1).toNat) (fun (i, o) => 0 ≤ i ∧ i ≤ n ∧ o = (ownTo cs c i.toNat).map nI) 45 (fun (i, _) => [(4, .own 14 none), (5, .own 2055 none), (6, .pv (i64 c) []), (7, .own 7 none), (19, .own 14 none), (20, .pv (i64 n) []), (21, .pv (i64 i) [])]) (fun (_, o) => [(14, some (.row rc 1 .free false)), (2055, some (.row b 1 .free false)), (7, some (.row o 1 .free false))]) (0, []) (by refine ⟨?_, ⟨?_, ?_, ?_, ?_, ?_, ?_, ?_, trivial⟩, ?_, ?_, ?_, trivial⟩ <;> cbv) ⟨by omega, by omega, rfl⟩ ?_
      intro ⟨i, o⟩ s f ⟨i1, i2, i3⟩
      have hol : o.length ≤ 12 := by rw [i3, List.length_map]; have := ownTo_len cs c i.toNat; omega
      cbv
      refine Ar.lss_ hA (fun g => ?_) (fun g => ?_)
      · obtain ⟨x, hx⟩ : ∃ x, cs[i.toNat]? = some x := ⟨_, List.getElem?_eq_getElem (by omega)⟩
        have ex : rc[i.toNat]? = some (i64 x) := by rw [hrc, List.getElem?_map, hx]; rfl
        cbv
        repeat' (first
          | (refine Ar.nn_ hA i1 ?_; cbv)
          | (refine Ar.toN_ hA (fun j hj => ?_); cbv)
          | (refine Ar.idx_ hA (x := i64 x) (by rw [show j = i.toNat by omega]; exact ex) ?_; cbv))
        refine Ar.eql_ hA (fun he => ?_) (fun he => ?_)
        · cbv
          refine Ar.app_ hA (fun o' ho' => ?_)
          cbv
          refine Ar.fitsL_ hA (by rw [ho', List.length_append]; simp only [List.length_singleton]; omega) ?_
          cbv
          refine Ar.add_ hA (by omega) (fun i' hi' => ?_)
          cbv
          refine ⟨(i', o'), (by show (n - i').toNat < (n - i).toNat; omega), ⟨by omega, by omega, by rw [show i'.toNat = i.toNat + 1 by omega]; exact ownTo_yes i3 hx he ⟨i1, rfl⟩ ho'⟩, (by refine ⟨?_, ⟨?_, ?_, ?_, ?_, ?_, ?_, ?_, trivial⟩, ?_, ?_, ?_, trivial⟩ <;> cbv)⟩
        · cbv
          refine Ar.add_ hA (by omega) (fun i' hi' => ?_)
          cbv
          refine ⟨(i', o), (by show (n - i').toNat < (n - i).toNat; omega), ⟨by omega, by omega, by rw [show i'.toNat = i.toNat + 1 by omega]; exact ownTo_no i3 hx he⟩, (by refine ⟨?_, ⟨?_, ?_, ?_, ?_, ?_, ?_, ?_, trivial⟩, ?_, ?_, ?_, trivial⟩ <;> cbv)⟩
      · have io : o = (ownF cs c).map nI := by rw [i3, show i.toNat = cs.length by omega]; rfl
        have lo : o.length = (ownF cs c).length := by rw [io, List.length_map]
        have lb : b.length = (bestS cs (c + 1).toNat).length := by rw [h4, List.length_map]
        have hn := hn1 h hc
        unfold pickS at hn
        rw [← lo, ← lb] at hn
        clear hn0 hn1
        cbv
        refine Ar.eql_ hA (fun e => absurd e (by omega)) (fun _ => ?_)
        cbv
        refine Ar.len_ hA (fun m1 hm1 hm1' => ?_)
        cbv
        refine Ar.len_ hA (fun m2 hm2 hm2' => ?_)
        cbv
        refine Ar.leq_ hA (fun g2 => ?_) (fun g2 => ?_)
        · rw [if_pos (by omega)] at hn
          cbv
          refine Ar.sub_ hA (by omega) (fun c' hc' => ?_)
          cbv
          refine ⟨(c', 7, o), (by show (c' + 1).toNat < (c + 1).toNat; omega), ⟨by omega, by omega, .inr (.inl ⟨by omega, rfl⟩), by rw [show c' + 1 = c by omega, hn]; exact io⟩, (by refine ⟨?_, ⟨?_, ?_, ?_, trivial⟩, ?_, ?_, trivial⟩ <;> cbv)⟩
        · rw [if_neg (by omega)] at hn
          cbv
          refine Ar.sub_ hA (by omega) (fun c' hc' => ?_)
          cbv
          refine ⟨(c', 2055, b), (by show (c' + 1).toNat < (c + 1).toNat; omega), ⟨by omega, by omega, .inr (.inr ⟨by omega, rfl⟩), by rw [show c' + 1 = c by omega, hn]; exact h4⟩, (by refine ⟨?_, ⟨?_, ?_, ?_, trivial⟩, ?_, ?_, trivial⟩ <;> cbv)⟩
    · have hf := hfin b (hend (by omega))
      cbv
      exact hf

theorem c_laws_FnExactGuardsOf : Callable Try.prog 6 := ⟨_, Try.func6, rfl, by kernel_rfl⟩
theorem d_laws_FnExactGuardsOf {es : List PV} {l : List P2} (hes : es = l.map P2.pv ∧ l.length ≤ 9223372036854775807) : Does Try.prog 6 [.sl es] (.pv (bl true)) [] := by
  refine does_of hT hM Try.func6 rfl (D := []) (by kernel_rfl) rfl rfl rfl (fun A K hA hK => ?_)
  obtain ⟨hes, hmax⟩ := hes
  have hlen : es.length = l.length := by simp [hes]
  cbv
  refine Ar.callI hA c_laws_szPtS (d_laws_szPtS (by omega) (by omega)) rfl (fun r hr => ?_)
  cbv
  refine Ar.lss_ hA (fun h => ?_) (fun h => ?_)
  · cbv
    exact hK _ _ rfl rfl
  have hb : l.length ≤ 1048576 := by have := szF_le hr h; omega
  have dS := d_spec_GuardsOf hes hb
  have dI := d_impl_GuardsOf hes hb
  have hcl : (guardR l).length ≤ 1048576 := Nat.le_trans guardR_len (by omega)
  obtain ⟨C, hC⟩ : ∃ C, C = (guardR l).map fun k : Nat => (k : Int) := ⟨_, rfl⟩
  have hCl : C.length ≤ 1048576 := by rw [hC, List.length_map]; exact hcl
  rw [nI_int, ← hC] at dS dI
  clear hC
  generalize galF l = G at dS dI
  obtain ⟨E, hE⟩ : ∃ E, E = C.map i64 := ⟨_, rfl⟩
  rw [← hE] at dS dI
  obtain ⟨M, hM⟩ : ∃ M, M = (up2 l.length 1).map P2.pv := ⟨_, rfl⟩
  obtain ⟨N, hN⟩ : ∃ N, N = (countUp C.length 1).map i64 := ⟨_, rfl⟩
  have m1 := d_laws_markPtS (k := 1) hes hb (by omega)
  have m2 := d_laws_markIntS (k := 1) hE (by omega) (by omega)
  have m3 := d_laws_heldIntS (k := 1) hN (by omega) (by omega)
  have e1 := d_laws_eqIntS hE hE (by omega)
  have e2 := d_laws_eqPtS hes hes hb
  rw [decide_eq_true rfl] at e1 e2
  rw [← hM] at m1
  rw [← hN] at m2
  obtain ⟨u, hu⟩ : ∃ u, u = on2 l.length 1 := ⟨_, rfl⟩
  obtain ⟨v, hv⟩ : ∃ v, v = onFrom C.length 1 := ⟨_, rfl⟩
  have hu0 := on2_pos hu (by omega)
  have hv0 := onFrom_pos hv (by omega)
  rw [← hu] at m1
  rw [← hv] at m2 m3
  clear hu hv hM hN hE
  cbv
  repeat' (first
    | (refine Ar.call_ hA c_laws_toPtS (d_laws_toPtS hes hb) rfl ?_; cbv)
    | (refine Ar.call_ hA c_spec_GuardsOf dS rfl ?_; cbv)
    | (refine Ar.call_ hA c_impl_GuardsOf dI rfl ?_; cbv)
    | (refine Ar.call_ hA c_laws_eqIntS e1 rfl ?_; cbv)
    | (refine Ar.call_ hA c_laws_eqPtS e2 rfl ?_; cbv)
    | (refine Ar.call_ hA c_laws_markPtS m1 rfl ?_; cbv)
    | (refine Ar.call_ hA c_laws_markIntS m2 rfl ?_; cbv)
    | (refine Ar.call_ hA c_laws_heldIntS m3 rfl ?_; cbv)
    | (refine Ar.notT_ hA ?_; cbv)
    | (refine Ar.bneq_ hA (fun h => absurd rfl h) (fun _ => ?_); cbv)
    | (refine Ar.neq_ hA (fun h => absurd rfl h) (fun _ => ?_); cbv)
    | (refine Ar.lss_ hA (fun h => absurd h (by omega)) (fun _ => ?_); cbv))
  exact hK _ _ rfl rfl

end Go.VAI
