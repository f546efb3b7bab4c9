/- SplitWay. -/
import Derived.Test.YtekmnlagkoelcaaN
namespace Go.VAI
open Go.Proofs
set_option maxRecDepth 100000
set_option maxHeartbeats 8000000

def goodSplit (l : List P2) (a b : Int) : Bool := isWayF l && decide (0 ≤ a ∧ a + 2 ≤ b ∧ b < Int.ofNat l.length ∧ ¬(a = 0 ∧ b = Int.ofNat l.length - 1))
def splA (l : List P2) (a b : Int) : List P2 := if goodSplit l a b then (l.drop a.toNat).take (b.toNat + 1 - a.toNat) else []
def splB (l : List P2) (a b : Int) : List P2 := if goodSplit l a b then l.drop b.toNat ++ l.take (a.toNat + 1) else []

theorem split_eq {l : List P2} {a b n : Int} (hn : 0 ≤ n) (hn' : n.toNat = l.length) (hc : isWayF l = true) : goodSplit l a b = decide (0 ≤ a ∧ a + 2 ≤ b ∧ b < n ∧ ¬(a = 0 ∧ b = n - 1)) := by
  unfold goodSplit
  rw [hc, ofNat_eq, show (l.length : Int) = n by omega, Bool.true_and]

theorem spl_le {l : List P2} {a b : Int} : (splA l a b).length ≤ 26 ∧ (splB l a b).length ≤ 26 := by
  unfold splA splB
  by_cases h : goodSplit l a b = true
  · rw [if_pos h, if_pos h]
    have : isWayF l = true := by unfold goodSplit at h; rw [Bool.and_eq_true] at h; exact h.1
    have := (isWayF_iff.1 this).2.1
    simp; omega
  · rw [if_neg h, if_neg h]; simp

/-- Keeps a statement yet unknown from the eyes of omega. -/
structure Hold' (p : Prop) : Prop where
  it : p
theorem share' {p X : Prop} (h : p) (k : Hold' p → X) : X := k ⟨h⟩

theorem Ar.slN_ {P : Program} {A : Ar} (hA : stdA P = A) {l : List PV} {o h o' : Nat} {K : List PV → Prop} (k : ∀ r, r = (l.drop o).take (h - o') → K r) : A.row (A.sub l o (A.subN h o')) K := by subst hA; exact k _ rfl

theorem dtake_next {α : Type} {l : List α} {d k : Nat} {x : α} (h : l[d + k]? = some x) : (l.drop d).take (k + 1) = (l.drop d).take k ++ [x] := by
  rw [List.take_add_one, List.getElem?_drop, h]; rfl
theorem dbl_get {α : Type} {l : List α} {i : Nat} (h0 : 0 < l.length) (h : i < 2 * l.length) : (l ++ l)[i]? = l[i % l.length]? := by
  by_cases c : i < l.length
  · rw [List.getElem?_append_left c, Nat.mod_eq_of_lt c]
  · rw [List.getElem?_append_right (by omega), Nat.mod_eq_sub_mod (by omega), Nat.mod_eq_of_lt (by omega)]
theorem dbl_end {α : Type} {l : List α} {a b : Nat} (hb : b ≤ l.length) (ha : a + 1 ≤ l.length) : ((l ++ l).drop b).take (a + l.length + 1 - b) = l.drop b ++ l.take (a + 1) := by
  rw [List.drop_append_of_le_length hb, List.take_append, List.take_of_length_le (by simp; omega)]
  congr 2
  simp; omega

theorem wide_pts {l : List P2} {es : List PV} (hes : es = l.map P2.pv) (fl : Bool) : ∀ x ∈ es, (leaves x).length = 2 ∧ (fl = true → isFree x = true) := by
  intro x hx; rw [hes] at hx; obtain ⟨y, _, rfl⟩ := List.mem_map.1 hx; exact ⟨rfl, fun _ => rfl⟩
theorem wide_sub {l : List P2} {es r : List PV} {o n : Nat} (hes : es = l.map P2.pv) (hr : r = (es.drop o).take n) (fl : Bool) : ∀ x ∈ r, (leaves x).length = 2 ∧ (fl = true → isFree x = true) := by
  intro x hx; rw [hr] at hx; exact wide_pts hes fl x (List.mem_of_mem_drop (List.mem_of_mem_take hx))

theorem c_spec_SplitWay : Callable Try.prog 21 := ⟨_, Try.func21, rfl, by kernel_rfl⟩
theorem d_spec_SplitWay {es : List PV} {l : List P2} {a b : Int} (hes : es = l.map P2.pv) (hb : l.length ≤ 1048576) (hia : InR a) (hib : InR b) : Does Try.prog 21 [.sl es, i64 a, i64 b] (.tup [.row ((splA l a b).map P2.pv) 2 .free, .row ((splB l a b).map P2.pv) 2 .free, .pv (bl (goodSplit l a b))]) [] := by
  refine does_of hT hM Try.func21 rfl (D := []) (by kernel_rfl) rfl rfl rfl (fun A K hA hK => ?_)
  have hlen : es.length = l.length := by simp [hes]
  obtain ⟨n0, hn0, hn0'⟩ : ∃ n : Int, 0 ≤ n ∧ n.toNat = l.length := ⟨(l.length : Int), by omega, by omega⟩
  have hno : goodSplit l a b = false → K (.tup [.row [] 2 .free, .row [] 2 .free, .pv (bl false)]) [] := fun h => hK _ _ (by rw [splA, splB, h]; rfl) rfl
  have hyes : goodSplit l a b = true → ∀ r q, r = ((l.drop a.toNat).take (b.toNat + 1 - a.toNat)).map P2.pv → q = (l.drop b.toNat ++ l.take (a.toNat + 1)).map P2.pv → K (.tup [.row r 2 .free, .row q 2 .free, .pv (bl true)]) [] := fun h r q hr hq => hK _ _ (by rw [splA, splB, h, hr, hq]; rfl) rfl
  clear hK
  cbv
  refine Ar.callT hA c_spec_l8Way (d_spec_l8Way hes hb) rfl (fun hc => ?_) (fun hc => ?_)
  rotate_left
  · have hg : goodSplit l a b = false := by unfold goodSplit; rw [hc]; rfl
    cbv
    repeat' (first
      | (refine Ar.nn_ hA (by omega) ?_; cbv)
      | (refine Ar.toN_ hA (fun _ _ => ?_); cbv)
      | (refine Ar.notT_ hA ?_; cbv)
      | (refine Ar.notF_ hA ?_; cbv)
      | (refine Ar.lss_ hA (fun _ => ?_) (fun _ => ?_) <;> cbv)
      | (refine Ar.leq_ hA (fun _ => ?_) (fun _ => ?_) <;> cbv)
      | (refine Ar.gtr_ hA (fun _ => ?_) (fun _ => ?_) <;> cbv)
      | (refine Ar.geq_ hA (fun _ => ?_) (fun _ => ?_) <;> cbv)
      | (refine Ar.eql_ hA (fun _ => ?_) (fun _ => ?_) <;> cbv)
      | (refine Ar.neq_ hA (fun _ => ?_) (fun _ => ?_) <;> cbv)
      | (refine Ar.add_ hA (by omega) (fun _ _ => ?_); cbv)
      | (refine Ar.sub_ hA (by omega) (fun _ _ => ?_); cbv)
      | (refine Ar.neg_ hA (by omega) (fun _ _ => ?_); cbv)
      | (refine Ar.mulB hA 2000 2000 (by omega) (by omega) (by omega) (fun _ _ _ _ => ?_); cbv)
      | (refine Ar.mulB hA 3000000000 3000000000 (by omega) (by omega) (by omega) (fun _ _ _ _ => ?_); cbv)
      | (refine Ar.nz_ hA (by omega) ?_; cbv)
      | (refine Ar.rem_ hA (by omega) (fun _ _ => ?_); cbv)
      | (refine Ar.quo_ hA (by omega) (fun _ _ => ?_); cbv)
      | (refine Ar.mx_ hA (fun _ _ => ?_); cbv)
      | (refine Ar.mn_ hA (fun _ _ => ?_); cbv)
      | (refine Ar.len_ hA (fun _ _ _ => ?_); cbv)
      | (refine Ar.lenN_ hA (fun _ _ => ?_); cbv)
      | (refine Ar.bneq_ hA (fun _ => ?_) (fun _ => ?_) <;> cbv)
      | (refine Ar.beq_ hA (fun _ => ?_) (fun _ => ?_) <;> cbv)
      | (refine Ar.ofN_ hA (fun _ _ _ => ?_); cbv)
)
    exact hno hg
  have hgs := split_eq (a := a) (b := b) hn0 hn0' hc
  have bad : ¬(0 ≤ a ∧ a + 2 ≤ b ∧ b < n0 ∧ ¬(a = 0 ∧ b = n0 - 1)) → goodSplit l a b = false := fun h => by rw [hgs]; exact decide_eq_false h
  have good : (0 ≤ a ∧ a + 2 ≤ b ∧ b < n0 ∧ ¬(a = 0 ∧ b = n0 - 1)) → goodSplit l a b = true := fun h => by rw [hgs]; exact decide_eq_true h
  clear hgs
  obtain ⟨c1, c2, hok⟩ := isWayF_iff.1 hc
  cbv
  refine Ar.notT_ hA ?_
  cbv
  refine Ar.lss_ hA (fun g1 => ?_) (fun g1 => ?_)
  · cbv; exact hno (bad (by omega))
  cbv
  refine Ar.len_ hA (fun n1 hn1 hn1' => ?_)
  cbv
  refine Ar.geq_ hA (fun g2 => ?_) (fun g2 => ?_)
  · cbv; exact hno (bad (by omega))
  cbv
  refine Ar.gtr_ hA (fun g3 => ?_) (fun g3 => ?_)
  · cbv; exact hno (bad (by omega))
  cbv
  refine Ar.add_ hA (by omega) (fun a2 ha2 => ?_)
  cbv
  refine Ar.lss_ hA (fun g4 => ?_) (fun g4 => ?_)
  · cbv; exact hno (bad (by omega))
  have fin : ¬(a = 0 ∧ b = n0 - 1) → goodSplit l a b = true := fun h => good ⟨by omega, by omega, by omega, h⟩
  refine Ar.eql_ hA (fun g5 => ?_) (fun g5 => ?_)
  · cbv
    refine Ar.len_ hA (fun n2 hn2 hn2' => ?_)
    cbv
    refine Ar.sub_ hA (by omega) (fun n3 hn3 => ?_)
    cbv
    refine Ar.eql_ hA (fun g6 => ?_) (fun g6 => ?_)
    · cbv; exact hno (bad (by omega))
    have hg := fin (by omega)
    cbv
    repeat' (first
        | (refine Ar.add_ hA (by omega) (fun b1 hb1 => ?_); cbv)
        | (refine Ar.lenN_ hA (fun n hn => ?_); cbv)
        | (refine Ar.nn_ hA (by omega) ?_; cbv)
        | (refine Ar.toN_ hA (fun j hj => ?_); cbv)
        | (refine Ar.rng_ hA (by omega) ?_; cbv)
        | (refine Ar.subN_ hA (fun j hj => ?_); cbv)
        | (refine Ar.wid_ hA (wide_pts hes _) ?_; cbv)
        | (refine Ar.slN_ hA (fun r hr => ?_); have hrl : r.length ≤ 12 := (by rw [hr]; simp only [List.length_append, List.length_nil, List.length_take, List.length_drop]; omega); cbv)
        | (refine Ar.wid_ hA (wide_sub hes (by assumption) _) ?_; cbv)
        | (refine Ar.app_ hA (fun r hr => ?_); have hrl : r.length ≤ 12 := (by rw [hr]; simp only [List.length_append, List.length_nil, List.length_take, List.length_drop]; omega); cbv)
        | (refine Ar.app_ hA (fun r hr => ?_); have hrl : r.length ≤ 40 := (by rw [hr]; simp only [List.length_append, List.length_nil, List.length_take, List.length_drop]; omega); cbv)
        | (refine Ar.fitsL_ hA (by omega) ?_; cbv))
    clear g5
    refine hyes hg _ _ ?_ ?_
    · subst_vars
      rw [show (b + 1).toNat = b.toNat + 1 by omega]
      simp [List.map_take, List.map_drop]
    · subst_vars
      rw [show (a + 1).toNat = a.toNat + 1 by omega, List.take_of_length_le (by simp)]
      simp [List.map_take, List.map_drop]
  · have hg := fin (by omega)
    cbv
    repeat' (first
        | (refine Ar.add_ hA (by omega) (fun b1 hb1 => ?_); cbv)
        | (refine Ar.lenN_ hA (fun n hn => ?_); cbv)
        | (refine Ar.nn_ hA (by omega) ?_; cbv)
        | (refine Ar.toN_ hA (fun j hj => ?_); cbv)
        | (refine Ar.rng_ hA (by omega) ?_; cbv)
        | (refine Ar.subN_ hA (fun j hj => ?_); cbv)
        | (refine Ar.wid_ hA (wide_pts hes _) ?_; cbv)
        | (refine Ar.slN_ hA (fun r hr => ?_); have hrl : r.length ≤ 12 := (by rw [hr]; simp only [List.length_append, List.length_nil, List.length_take, List.length_drop]; omega); cbv)
        | (refine Ar.wid_ hA (wide_sub hes (by assumption) _) ?_; cbv)
        | (refine Ar.app_ hA (fun r hr => ?_); have hrl : r.length ≤ 12 := (by rw [hr]; simp only [List.length_append, List.length_nil, List.length_take, List.length_drop]; omega); cbv)
        | (refine Ar.app_ hA (fun r hr => ?_); have hrl : r.length ≤ 40 := (by rw [hr]; simp only [List.length_append, List.length_nil, List.length_take, List.length_drop]; omega); cbv)
        | (refine Ar.fitsL_ hA (by omega) ?_; cbv))
    clear g5
    refine hyes hg _ _ ?_ ?_
    · subst_vars
      rw [show (b + 1).toNat = b.toNat + 1 by omega]
      simp [List.map_take, List.map_drop]
    · subst_vars
      rw [show (a + 1).toNat = a.toNat + 1 by omega, List.take_of_length_le (by simp)]
      simp [List.map_take, List.map_drop]

theorem c_impl_SplitWay : Callable Try.prog 22 := ⟨_, Try.func22, rfl, by kernel_rfl⟩
theorem d_impl_SplitWay {es : List PV} {l : List P2} {a b : Int} (hes : es = l.map P2.pv) (hb : l.length ≤ 1048576) (hia : InR a) (hib : InR b) : Does Try.prog 22 [.sl es, i64 a, i64 b] (.tup [.row ((splA l a b).map P2.pv) 2 .free, .row ((splB l a b).map P2.pv) 2 .free, .pv (bl (goodSplit l a b))]) [] := by
  refine does_of hT hM Try.func22 rfl (D := []) (by kernel_rfl) rfl rfl rfl (fun A K hA hK => ?_)
  have hlen : es.length = l.length := by simp [hes]
  have hno : goodSplit l a b = false → K (.tup [.row [] 2 .free, .row [] 2 .free, .pv (bl false)]) [] := fun h => hK _ _ (by rw [splA, splB, h]; rfl) rfl
  have hyes : goodSplit l a b = true → ∀ r q, r = ((l.drop a.toNat).take (b.toNat + 1 - a.toNat)).map P2.pv → q = (l.drop b.toNat ++ l.take (a.toNat + 1)).map P2.pv → K (.tup [.row r 2 .free, .row q 2 .free, .pv (bl true)]) [] := fun h r q hr hq => hK _ _ (by rw [splA, splB, h, hr, hq]; rfl) rfl
  clear hK
  cbv
  refine Ar.len_ hA (fun n hn hn' => ?_)
  cbv
  refine Ar.callT hA c_impl_isWay (d_impl_isWay hes hb) rfl (fun hc => ?_) (fun hc => ?_)
  rotate_left
  · have hg : goodSplit l a b = false := by unfold goodSplit; rw [hc]; rfl
    cbv
    repeat' (first
      | (refine Ar.nn_ hA (by omega) ?_; cbv)
      | (refine Ar.toN_ hA (fun _ _ => ?_); cbv)
      | (refine Ar.notT_ hA ?_; cbv)
      | (refine Ar.notF_ hA ?_; cbv)
      | (refine Ar.lss_ hA (fun _ => ?_) (fun _ => ?_) <;> cbv)
      | (refine Ar.leq_ hA (fun _ => ?_) (fun _ => ?_) <;> cbv)
      | (refine Ar.gtr_ hA (fun _ => ?_) (fun _ => ?_) <;> cbv)
      | (refine Ar.geq_ hA (fun _ => ?_) (fun _ => ?_) <;> cbv)
      | (refine Ar.eql_ hA (fun _ => ?_) (fun _ => ?_) <;> cbv)
      | (refine Ar.neq_ hA (fun _ => ?_) (fun _ => ?_) <;> cbv)
      | (refine Ar.add_ hA (by omega) (fun _ _ => ?_); cbv)
      | (refine Ar.sub_ hA (by omega) (fun _ _ => ?_); cbv)
      | (refine Ar.neg_ hA (by omega) (fun _ _ => ?_); cbv)
      | (refine Ar.mulB hA 2000 2000 (by omega) (by omega) (by omega) (fun _ _ _ _ => ?_); cbv)
      | (refine Ar.mulB hA 3000000000 3000000000 (by omega) (by omega) (by omega) (fun _ _ _ _ => ?_); cbv)
      | (refine Ar.nz_ hA (by omega) ?_; cbv)
      | (refine Ar.rem_ hA (by omega) (fun _ _ => ?_); cbv)
      | (refine Ar.quo_ hA (by omega) (fun _ _ => ?_); cbv)
      | (refine Ar.mx_ hA (fun _ _ => ?_); cbv)
      | (refine Ar.mn_ hA (fun _ _ => ?_); cbv)
      | (refine Ar.len_ hA (fun _ _ _ => ?_); cbv)
      | (refine Ar.lenN_ hA (fun _ _ => ?_); cbv)
      | (refine Ar.bneq_ hA (fun _ => ?_) (fun _ => ?_) <;> cbv)
      | (refine Ar.beq_ hA (fun _ => ?_) (fun _ => ?_) <;> cbv)
      | (refine Ar.ofN_ hA (fun _ _ _ => ?_); cbv)
)
    exact hno hg
  have hgs := split_eq (a := a) (b := b) hn (by omega) hc
  have bad : ¬(0 ≤ a ∧ a + 2 ≤ b ∧ b < n ∧ ¬(a = 0 ∧ b = n - 1)) → goodSplit l a b = false := fun h => by rw [hgs]; exact decide_eq_false h
  have good : (0 ≤ a ∧ a + 2 ≤ b ∧ b < n ∧ ¬(a = 0 ∧ b = n - 1)) → goodSplit l a b = true := fun h => by rw [hgs]; exact decide_eq_true h
  clear hgs
  obtain ⟨c1, c2, hok⟩ := isWayF_iff.1 hc
  cbv
  refine Ar.notT_ hA ?_
  cbv
  refine Ar.sub_ hA (by omega) (fun n1 hn1 => ?_)
  cbv
  refine Ar.callT hA c_impl_within (d_impl_within (n := a) (lo := 0) (hi := n1)) rfl (fun g1 => ?_) (fun g1 => ?_)
  rotate_left
  · have : ¬(0 ≤ a ∧ a ≤ n1) := fun e => by simp [e.1, e.2] at g1
    cbv
    repeat' (first
      | (refine Ar.nn_ hA (by omega) ?_; cbv)
      | (refine Ar.toN_ hA (fun _ _ => ?_); cbv)
      | (refine Ar.notT_ hA ?_; cbv)
      | (refine Ar.notF_ hA ?_; cbv)
      | (refine Ar.lss_ hA (fun _ => ?_) (fun _ => ?_) <;> cbv)
      | (refine Ar.leq_ hA (fun _ => ?_) (fun _ => ?_) <;> cbv)
      | (refine Ar.gtr_ hA (fun _ => ?_) (fun _ => ?_) <;> cbv)
      | (refine Ar.geq_ hA (fun _ => ?_) (fun _ => ?_) <;> cbv)
      | (refine Ar.eql_ hA (fun _ => ?_) (fun _ => ?_) <;> cbv)
      | (refine Ar.neq_ hA (fun _ => ?_) (fun _ => ?_) <;> cbv)
      | (refine Ar.add_ hA (by omega) (fun _ _ => ?_); cbv)
      | (refine Ar.sub_ hA (by omega) (fun _ _ => ?_); cbv)
      | (refine Ar.neg_ hA (by omega) (fun _ _ => ?_); cbv)
      | (refine Ar.mulB hA 2000 2000 (by omega) (by omega) (by omega) (fun _ _ _ _ => ?_); cbv)
      | (refine Ar.mulB hA 3000000000 3000000000 (by omega) (by omega) (by omega) (fun _ _ _ _ => ?_); cbv)
      | (refine Ar.nz_ hA (by omega) ?_; cbv)
      | (refine Ar.rem_ hA (by omega) (fun _ _ => ?_); cbv)
      | (refine Ar.quo_ hA (by omega) (fun _ _ => ?_); cbv)
      | (refine Ar.mx_ hA (fun _ _ => ?_); cbv)
      | (refine Ar.mn_ hA (fun _ _ => ?_); cbv)
      | (refine Ar.len_ hA (fun _ _ _ => ?_); cbv)
      | (refine Ar.lenN_ hA (fun _ _ => ?_); cbv)
      | (refine Ar.bneq_ hA (fun _ => ?_) (fun _ => ?_) <;> cbv)
      | (refine Ar.beq_ hA (fun _ => ?_) (fun _ => ?_) <;> cbv)
      | (refine Ar.ofN_ hA (fun _ _ _ => ?_); cbv)
)
    exact hno (bad (by omega))
  rw [Bool.and_eq_true, decide_eq_true_eq, decide_eq_true_eq] at g1
  cbv
  refine Ar.notT_ hA ?_
  cbv
  refine Ar.add_ hA (by omega) (fun a2 ha2 => ?_)
  cbv
  refine Ar.sub_ hA (by omega) (fun n1' hn1' => ?_)
  cbv
  refine Ar.callT hA c_impl_within (d_impl_within (n := b) (lo := a2) (hi := n1')) rfl (fun g2 => ?_) (fun g2 => ?_)
  rotate_left
  · have : ¬(a2 ≤ b ∧ b ≤ n1') := fun e => by simp [e.1, e.2] at g2
    cbv
    repeat' (first
      | (refine Ar.nn_ hA (by omega) ?_; cbv)
      | (refine Ar.toN_ hA (fun _ _ => ?_); cbv)
      | (refine Ar.notT_ hA ?_; cbv)
      | (refine Ar.notF_ hA ?_; cbv)
      | (refine Ar.lss_ hA (fun _ => ?_) (fun _ => ?_) <;> cbv)
      | (refine Ar.leq_ hA (fun _ => ?_) (fun _ => ?_) <;> cbv)
      | (refine Ar.gtr_ hA (fun _ => ?_) (fun _ => ?_) <;> cbv)
      | (refine Ar.geq_ hA (fun _ => ?_) (fun _ => ?_) <;> cbv)
      | (refine Ar.eql_ hA (fun _ => ?_) (fun _ => ?_) <;> cbv)
      | (refine Ar.neq_ hA (fun _ => ?_) (fun _ => ?_) <;> cbv)
      | (refine Ar.add_ hA (by omega) (fun _ _ => ?_); cbv)
      | (refine Ar.sub_ hA (by omega) (fun _ _ => ?_); cbv)
      | (refine Ar.neg_ hA (by omega) (fun _ _ => ?_); cbv)
      | (refine Ar.mulB hA 2000 2000 (by omega) (by omega) (by omega) (fun _ _ _ _ => ?_); cbv)
      | (refine Ar.mulB hA 3000000000 3000000000 (by omega) (by omega) (by omega) (fun _ _ _ _ => ?_); cbv)
      | (refine Ar.nz_ hA (by omega) ?_; cbv)
      | (refine Ar.rem_ hA (by omega) (fun _ _ => ?_); cbv)
      | (refine Ar.quo_ hA (by omega) (fun _ _ => ?_); cbv)
      | (refine Ar.mx_ hA (fun _ _ => ?_); cbv)
      | (refine Ar.mn_ hA (fun _ _ => ?_); cbv)
      | (refine Ar.len_ hA (fun _ _ _ => ?_); cbv)
      | (refine Ar.lenN_ hA (fun _ _ => ?_); cbv)
      | (refine Ar.bneq_ hA (fun _ => ?_) (fun _ => ?_) <;> cbv)
      | (refine Ar.beq_ hA (fun _ => ?_) (fun _ => ?_) <;> cbv)
      | (refine Ar.ofN_ hA (fun _ _ _ => ?_); cbv)
)
    exact hno (bad (by omega))
  rw [Bool.and_eq_true, decide_eq_true_eq, decide_eq_true_eq] at g2
  cbv
  refine Ar.notT_ hA ?_
  cbv
  have fin : ¬(a = 0 ∧ b = n - 1) → goodSplit l a b = true := fun h => good ⟨by omega, by omega, by omega, h⟩
  apply share'
  case k =>
    intro hB
    refine Ar.eql_ hA (fun g5 => ?_) (fun g5 => ?_)
    · cbv
      refine Ar.sub_ hA (by omega) (fun n3 hn3 => ?_)
      cbv
      refine Ar.eql_ hA (fun g6 => ?_) (fun g6 => ?_)
      · cbv
        repeat' (first
          | (refine Ar.nn_ hA (by omega) ?_; cbv)
          | (refine Ar.toN_ hA (fun _ _ => ?_); cbv)
          | (refine Ar.notT_ hA ?_; cbv)
          | (refine Ar.notF_ hA ?_; cbv)
          | (refine Ar.lss_ hA (fun _ => ?_) (fun _ => ?_) <;> cbv)
          | (refine Ar.leq_ hA (fun _ => ?_) (fun _ => ?_) <;> cbv)
          | (refine Ar.gtr_ hA (fun _ => ?_) (fun _ => ?_) <;> cbv)
          | (refine Ar.geq_ hA (fun _ => ?_) (fun _ => ?_) <;> cbv)
          | (refine Ar.eql_ hA (fun _ => ?_) (fun _ => ?_) <;> cbv)
          | (refine Ar.neq_ hA (fun _ => ?_) (fun _ => ?_) <;> cbv)
          | (refine Ar.add_ hA (by omega) (fun _ _ => ?_); cbv)
          | (refine Ar.sub_ hA (by omega) (fun _ _ => ?_); cbv)
          | (refine Ar.neg_ hA (by omega) (fun _ _ => ?_); cbv)
          | (refine Ar.mulB hA 2000 2000 (by omega) (by omega) (by omega) (fun _ _ _ _ => ?_); cbv)
          | (refine Ar.mulB hA 3000000000 3000000000 (by omega) (by omega) (by omega) (fun _ _ _ _ => ?_); cbv)
          | (refine Ar.nz_ hA (by omega) ?_; cbv)
          | (refine Ar.rem_ hA (by omega) (fun _ _ => ?_); cbv)
          | (refine Ar.quo_ hA (by omega) (fun _ _ => ?_); cbv)
          | (refine Ar.mx_ hA (fun _ _ => ?_); cbv)
          | (refine Ar.mn_ hA (fun _ _ => ?_); cbv)
          | (refine Ar.len_ hA (fun _ _ _ => ?_); cbv)
          | (refine Ar.lenN_ hA (fun _ _ => ?_); cbv)
          | (refine Ar.bneq_ hA (fun _ => ?_) (fun _ => ?_) <;> cbv)
          | (refine Ar.beq_ hA (fun _ => ?_) (fun _ => ?_) <;> cbv)
          | (refine Ar.ofN_ hA (fun _ _ _ => ?_); cbv)
)
        exact hno (bad (by omega))
      have hg := fin (by omega)
      cbv
      exact Ar.loop_ hA (α := Int × List PV) (fun x => (b + 1 - x.1).toNat) (fun (i, r) => goodSplit l a b = true ∧ a ≤ i ∧ i ≤ b + 1 ∧ r = (((l.drop a.toNat).take (i.toNat - a.toNat)).map P2.pv)) 79 (fun (i, r) => [(0, .pv (.sl es) []), (1, .pv (i64 a) []), (2, .pv (i64 b) []), (9, .pv (i64 n) []), (10, .own 45 none), (11, .own 46 none), (12, .pv (i64 i) [])]) (fun (i, r) => [(45, some (.row r 2 .free false)), (46, some (.row [] 2 .free false))]) (a, []) (by refine ⟨?_, ⟨?_, ?_, ?_, ?_, ?_, ?_, ?_, trivial⟩, ?_, ?_, trivial⟩ <;> cbv) ⟨hg, by omega, by omega, by simp⟩ hB.it
    · have hg := fin (by omega)
      cbv
      exact Ar.loop_ hA (α := Int × List PV) (fun x => (b + 1 - x.1).toNat) (fun (i, r) => goodSplit l a b = true ∧ a ≤ i ∧ i ≤ b + 1 ∧ r = (((l.drop a.toNat).take (i.toNat - a.toNat)).map P2.pv)) 79 (fun (i, r) => [(0, .pv (.sl es) []), (1, .pv (i64 a) []), (2, .pv (i64 b) []), (9, .pv (i64 n) []), (10, .own 45 none), (11, .own 46 none), (12, .pv (i64 i) [])]) (fun (i, r) => [(45, some (.row r 2 .free false)), (46, some (.row [] 2 .free false))]) (a, []) (by refine ⟨?_, ⟨?_, ?_, ?_, ?_, ?_, ?_, ?_, trivial⟩, ?_, ?_, trivial⟩ <;> cbv) ⟨hg, by omega, by omega, by simp⟩ hB.it
  intro ⟨i, r⟩ s f ⟨hg, h1, h2, h3⟩
  cbv
  refine Ar.leq_ hA (fun h => ?_) (fun h => ?_)
  · cbv
    refine Ar.nn_ hA (by omega) ?_
    cbv
    refine Ar.toN_ hA (fun j hj => ?_)
    cbv
    obtain ⟨⟨px, py⟩, hp⟩ : ∃ p, l[j]? = some p := ⟨l[j]'(by omega), List.getElem?_eq_getElem _⟩
    refine Ar.idx_ hA (x := pt px py) (by simp [hes, hp, P2.pv]) ?_
    cbv
    have hrl : r.length ≤ 12 := by rw [h3]; simp; omega
    have key : ((l.drop a.toNat).take (i.toNat + 1 - a.toNat)) = (l.drop a.toNat).take (i.toNat - a.toNat) ++ [⟨px, py⟩] := by
      rw [show i.toNat + 1 - a.toNat = (i.toNat - a.toNat) + 1 by omega]
      exact dtake_next (by rw [show a.toNat + (i.toNat - a.toNat) = j by omega]; exact hp)
    refine Ar.app_ hA (fun r' hr' => ?_)
    cbv
    refine Ar.fitsL_ hA (by rw [hr', List.length_append]; simp only [List.length_singleton]; omega) ?_
    cbv
    refine Ar.add_ hA (by omega) (fun i' hi' => ?_)
    cbv
    refine ⟨(i', r'), (by show (b + 1 - i').toNat < (b + 1 - i).toNat; omega), ⟨hg, by omega, by omega, ?_⟩, (by refine ⟨?_, ⟨?_, ?_, ?_, ?_, ?_, ?_, ?_, trivial⟩, ?_, ?_, trivial⟩ <;> cbv)⟩
    rw [show i'.toNat = i.toNat + 1 by omega, key, List.map_append, ← h3, hr']; rfl
  · rw [show i.toNat = b.toNat + 1 by omega] at h3
    cbv
    refine Ar.loop_ hA (α := Int × List PV) (fun x => (a + n + 1 - x.1).toNat) (fun (i, q) => b ≤ i ∧ i ≤ a + n + 1 ∧ q = ((((l ++ l).drop b.toNat).take (i.toNat - b.toNat)).map P2.pv)) 79 (fun (i, q) => [(0, .pv (.sl es) []), (1, .pv (i64 a) []), (2, .pv (i64 b) []), (9, .pv (i64 n) []), (10, .own 45 none), (11, .own 46 none), (13, .pv (i64 i) [])]) (fun (i, q) => [(45, some (.row r 2 .free false)), (46, some (.row q 2 .free false))]) (b, []) (by refine ⟨?_, ⟨?_, ?_, ?_, ?_, ?_, ?_, ?_, trivial⟩, ?_, ?_, trivial⟩ <;> cbv) ⟨by omega, by omega, by simp⟩ ?_
    intro ⟨i, q⟩ s f ⟨k1, k2, k3⟩
    cbv
    refine Ar.add_ hA (by omega) (fun m hm => ?_)
    cbv
    refine Ar.leq_ hA (fun g => ?_) (fun g => ?_)
    · cbv
      refine Ar.nz_ hA (by omega) ?_
      cbv
      refine Ar.rem_ hA (by omega) (fun x hx => ?_)
      have hx0 : 0 ≤ x := by rw [hx]; exact Int.emod_nonneg _ (by omega)
      have hx1 : x.toNat = i.toNat % l.length := by
        have e1 : i = ((i.toNat : Nat) : Int) := by omega
        have e2 : n = (l.length : Int) := by omega
        rw [hx, e1, e2]; rfl
      have hxl : x.toNat < l.length := by rw [hx1]; exact Nat.mod_lt _ (by omega)
      cbv
      refine Ar.nn_ hA (by omega) ?_
      cbv
      refine Ar.toN_ hA (fun j hj => ?_)
      cbv
      obtain ⟨⟨px, py⟩, hp⟩ : ∃ p, l[j]? = some p := ⟨l[j]'(by omega), List.getElem?_eq_getElem _⟩
      refine Ar.idx_ hA (x := pt px py) (by simp [hes, hp, P2.pv]) ?_
      cbv
      have hql : q.length ≤ 24 := by rw [k3]; simp; omega
      have hd : (l ++ l)[i.toNat]? = some ⟨px, py⟩ := by rw [dbl_get (by omega) (by omega), ← hx1, ← hj]; exact hp
      have key : (((l ++ l).drop b.toNat).take (i.toNat + 1 - b.toNat)) = ((l ++ l).drop b.toNat).take (i.toNat - b.toNat) ++ [⟨px, py⟩] := by
        rw [show i.toNat + 1 - b.toNat = (i.toNat - b.toNat) + 1 by omega]
        exact dtake_next (by rw [show b.toNat + (i.toNat - b.toNat) = i.toNat by omega]; exact hd)
      refine Ar.app_ hA (fun q' hq' => ?_)
      cbv
      refine Ar.fitsL_ hA (by rw [hq', List.length_append]; simp only [List.length_singleton]; omega) ?_
      cbv
      refine Ar.add_ hA (by omega) (fun i' hi' => ?_)
      cbv
      refine ⟨(i', q'), (by show (a + n + 1 - i').toNat < (a + n + 1 - i).toNat; omega), ⟨by omega, by omega, ?_⟩, (by refine ⟨?_, ⟨?_, ?_, ?_, ?_, ?_, ?_, ?_, trivial⟩, ?_, ?_, trivial⟩ <;> cbv)⟩
      rw [show i'.toNat = i.toNat + 1 by omega, key, List.map_append, ← k3, hq']; rfl
    · rw [show i.toNat - b.toNat = a.toNat + l.length + 1 - b.toNat by omega, dbl_end (by omega) (by omega)] at k3
      cbv
      exact hyes hg _ _ h3 k3

theorem c_laws_FnExactSplitWay : Callable Try.prog 4 := ⟨_, Try.func4, rfl, by kernel_rfl⟩
theorem d_laws_FnExactSplitWay {es : List PV} {l : List P2} {a b : Int} (hes : es = l.map P2.pv ∧ l.length ≤ 9223372036854775807) (hia : InR a) (hib : InR b) : Does Try.prog 4 [.sl es, i64 a, i64 b] (.pv (bl true)) [] := by
  refine does_of hT hM Try.func4 rfl (D := []) (by kernel_rfl) rfl rfl rfl (fun A K hA hK => ?_)
  obtain ⟨hes, hmax⟩ := hes
  have hlen : es.length = l.length := by simp [hes]
  have hcl := spl_le (l := l) (a := a) (b := b)
  obtain ⟨C, hC⟩ : ∃ C, C = splA l a b := ⟨_, rfl⟩
  obtain ⟨D, hD⟩ : ∃ D, D = splB l a b := ⟨_, rfl⟩
  have dS := fun (hb : l.length ≤ 1048576) => d_spec_SplitWay (a := a) (b := b) hes hb hia hib
  have dI := fun (hb : l.length ≤ 1048576) => d_impl_SplitWay (a := a) (b := b) hes hb hia hib
  rw [← hC, ← hD] at dS dI hcl
  clear hC hD
  generalize hG : goodSplit l a b = G at dS dI
  clear hG
  obtain ⟨E, hE⟩ : ∃ E, E = C.map P2.pv := ⟨_, rfl⟩
  obtain ⟨F, hF⟩ : ∃ F, F = D.map P2.pv := ⟨_, rfl⟩
  rw [← hE, ← hF] at dS dI
  obtain ⟨M, hM⟩ : ∃ M, M = (up2 l.length 1).map P2.pv := ⟨_, rfl⟩
  obtain ⟨u, hu⟩ : ∃ u, u = on2 l.length 1 := ⟨_, rfl⟩
  obtain ⟨v, hv⟩ : ∃ v, v = on2 C.length 1 := ⟨_, rfl⟩
  have hu0 := on2_pos hu (by omega)
  have hv0 := on2_pos hv (by omega)
  have hv1 : v ≤ 1000 := by rw [hv]; unfold on2; omega
  obtain ⟨z, hz⟩ : ∃ z, z = on2 D.length v := ⟨_, rfl⟩
  have hz0 := on2_pos hz hv0
  obtain ⟨N, hN⟩ : ∃ N, N = (up2 C.length 1).map P2.pv := ⟨_, rfl⟩
  obtain ⟨O, hO⟩ : ∃ O, O = (up2 D.length v).map P2.pv := ⟨_, rfl⟩
  have m1 := fun (hb : l.length ≤ 1048576) => d_laws_markPtS (k := 1) hes hb (by omega)
  have m2 := d_laws_markPtS (k := 1) hE (by omega) (by omega)
  have m2' := d_laws_markPtS (k := v) hF (by omega) (by omega)
  have m3 := d_laws_heldPtS (k := 1) hN (by omega) (by omega)
  have m3' := d_laws_heldPtS (k := v) hO (by omega) (by omega)
  have e1 := d_laws_eqPtS hE hE (by omega)
  have e1' := d_laws_eqPtS hF hF (by omega)
  have e2 := fun (hb : l.length ≤ 1048576) => d_laws_eqPtS hes hes hb
  rw [decide_eq_true rfl] at e1 e1'
  rw [← hM] at m1
  rw [← hN] at m2
  rw [← hO] at m2'
  rw [← hu] at m1
  rw [← hv] at m2 m3
  rw [← hz] at m2' m3'
  clear hu hv hM hN hE hF hO hz
  cbv
  refine Ar.callI hA c_laws_szPtS (d_laws_szPtS (by omega) (by omega)) rfl (fun r hr => ?_)
  cbv
  refine Ar.lss_ hA (fun h => ?_) (fun h => ?_)
  · cbv
    exact hK _ _ rfl rfl
  have hb : l.length ≤ 1048576 := by have := szF_le hr h; omega
  have dS := dS hb
  have dI := dI hb
  have m1 := m1 hb
  have e2 := e2 hb
  rw [decide_eq_true rfl] at e2
  cbv
  repeat' (first
    | (refine Ar.call_ hA c_laws_toPtS (d_laws_toPtS hes hb) rfl ?_; cbv)
    | (refine Ar.call_ hA c_spec_SplitWay dS rfl ?_; cbv)
    | (refine Ar.call_ hA c_impl_SplitWay dI rfl ?_; cbv)
    | (refine Ar.call_ hA c_laws_eqPtS e1 rfl ?_; cbv)
    | (refine Ar.call_ hA c_laws_eqPtS e1' rfl ?_; cbv)
    | (refine Ar.call_ hA c_laws_eqPtS e2 rfl ?_; cbv)
    | (refine Ar.call_ hA c_laws_markPtS m1 rfl ?_; cbv)
    | (refine Ar.call_ hA c_laws_markPtS m2 rfl ?_; cbv)
    | (refine Ar.call_ hA c_laws_markPtS m2' rfl ?_; cbv)
    | (refine Ar.call_ hA c_laws_heldPtS m3 rfl ?_; cbv)
    | (refine Ar.call_ hA c_laws_heldPtS m3' rfl ?_; cbv)
    | (refine Ar.notT_ hA ?_; cbv)
    | (refine Ar.bneq_ hA (fun h => absurd rfl h) (fun _ => ?_); cbv)
    | (refine Ar.neq_ hA (fun h => absurd rfl h) (fun _ => ?_); cbv)
    | (refine Ar.lss_ hA (fun h => absurd h (by omega)) (fun _ => ?_); cbv))
  exact hK _ _ rfl rfl

end Go.VAI
