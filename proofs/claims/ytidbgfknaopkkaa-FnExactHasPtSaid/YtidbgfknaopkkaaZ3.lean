/- The sides of a hull. -/
import Derived.Test.YtidbgfknaopkkaaZ2
namespace Go.VAI
open Go.Proofs
set_option maxRecDepth 100000
set_option maxHeartbeats 8000000

/-- Takes corners off the top that are none behind p. -/
def popR (p : P2) : List P2 → List P2
  | b :: a :: s => if sgn (cross a b p) ≤ 0 then popR p (a :: s) else b :: a :: s
  | s => s
def chainR (l : List P2) : List P2 := l.foldl (fun st p => p :: popR p st) []
def chainF (l : List P2) : List P2 := (chainR l).reverse
theorem chainR_next {l : List P2} {i : Nat} {p : P2} (h : l[i]? = some p) : chainR (l.take (i + 1)) = p :: popR p (chainR (l.take i)) := foldl_take (fun st p => p :: popR p st) [] h
theorem popR_mem {p x : P2} : ∀ {s : List P2}, x ∈ popR p s → x ∈ s
  | [], h => h
  | [a], h => h
  | b :: a :: s, h => by
    rw [popR] at h
    split at h
    · exact List.mem_cons_of_mem _ (popR_mem h)
    · exact h
theorem popR_len {p : P2} : ∀ {s : List P2}, (popR p s).length ≤ s.length
  | [] => by simp [popR]
  | [a] => by simp [popR]
  | b :: a :: s => by
    rw [popR]
    split
    · have := popR_len (p := p) (s := a :: s); simp only [List.length_cons] at this ⊢; omega
    · exact Nat.le_refl _
theorem chainR_aux : ∀ (l s : List P2), (∀ x, x ∈ l.foldl (fun st p => p :: popR p st) s → x ∈ s ∨ x ∈ l) ∧ (l.foldl (fun st p => p :: popR p st) s).length ≤ s.length + l.length ∧ (0 < s.length ∨ 0 < l.length → 0 < (l.foldl (fun st p => p :: popR p st) s).length)
  | [], s => ⟨fun x h => .inl h, by simp, by simp⟩
  | p :: l, s => by
    obtain ⟨h1, h2, h3⟩ := chainR_aux l (p :: popR p s)
    refine ⟨fun x hx => ?_, ?_, fun _ => h3 (.inl (by simp))⟩
    · rcases h1 x hx with h | h
      · rcases List.mem_cons.1 h with rfl | h
        · simp
        · exact .inl (popR_mem h)
      · simp [h]
    · have := popR_len (p := p) (s := s)
      simp only [List.foldl_cons, List.length_cons] at h2 ⊢; omega
theorem chainF_mem {l : List P2} {x : P2} (h : x ∈ chainF l) : x ∈ l := by
  unfold chainF at h
  rw [List.mem_reverse] at h
  simpa using (chainR_aux l []).1 x h
theorem chainF_len (l : List P2) : (chainF l).length ≤ l.length := by
  unfold chainF
  rw [List.length_reverse]
  have := (chainR_aux l []).2.1
  rw [List.length_nil, Nat.zero_add] at this
  exact this
theorem chainF_pos {l : List P2} (h : 0 < l.length) : 0 < (chainF l).length := by
  unfold chainF
  rw [List.length_reverse]
  exact (chainR_aux l []).2.2 (.inr h)

theorem Ar.subL_ {P : Program} {A : Ar} (hA : stdA P = A) {es : List PV} {o : Nat} {K : Nat → Prop} (h : ∀ r : Nat, r = es.length - o → K r) : A.nat (A.subN (A.len es) o) K := by subst hA; exact h _ rfl

/-- The two upmost of a list. -/
theorem top_two {c : List P2} {m : Nat} {a b : P2} (hm : m = c.length) (h2 : 2 ≤ m) (ha : c[m - 2]? = some a) (hb : c[m - 1]? = some b) : ∃ s, c.reverse = b :: a :: s ∧ (c.take (m - 1)).reverse = a :: s := by
  subst hm
  have e0 : c = c.take (c.length - 2) ++ [a, b] := by
    have e1 : c.take (c.length - 1) = c.take (c.length - 2) ++ [a] := by
      have := List.take_add_one (l := c) (i := c.length - 2)
      rw [show c.length - 2 + 1 = c.length - 1 by omega, ha] at this
      exact this
    have e2 : c.take c.length = c.take (c.length - 1) ++ [b] := by
      have := List.take_add_one (l := c) (i := c.length - 1)
      rw [show c.length - 1 + 1 = c.length by omega, hb] at this
      exact this
    rw [List.take_of_length_le (Nat.le_refl _), e1] at e2
    simpa using e2
  refine ⟨(c.take (c.length - 2)).reverse, ?_, ?_⟩
  · conv => lhs; rw [e0]
    simp
  · have := List.take_add_one (l := c) (i := c.length - 2)
    rw [show c.length - 2 + 1 = c.length - 1 by omega, ha] at this
    rw [this]; simp

theorem popR_stop {p : P2} {c : List P2} {m : Nat} (hm : m = c.length) (h : m < 2 ∨ ∃ a b, c[m - 2]? = some a ∧ c[m - 1]? = some b ∧ 0 < sgn (cross a b p)) : popR p c.reverse = c.reverse := by
  by_cases h2 : m < 2
  · have : c.reverse.length < 2 := by rw [List.length_reverse]; omega
    match hc : c.reverse, this with
    | [], _ => rfl
    | [a], _ => rfl
    | a :: b :: s, this => simp at this; omega
  · rcases h with h | ⟨a, b, ha, hb, hx⟩
    · exact absurd h h2
    · obtain ⟨s, h1, _⟩ := top_two hm (by omega) ha hb
      rw [h1, popR, if_neg (by omega)]
theorem popR_go {p : P2} {c : List P2} {m : Nat} {a b : P2} (hm : m = c.length) (h2 : 2 ≤ m) (ha : c[m - 2]? = some a) (hb : c[m - 1]? = some b) (hx : sgn (cross a b p) ≤ 0) : popR p c.reverse = popR p (c.take (m - 1)).reverse := by
  obtain ⟨s, h1, h3⟩ := top_two hm h2 ha hb
  rw [h1, popR, if_pos hx, h3]

theorem c_spec_l10Chain : Callable Try.prog 106 := ⟨_, Try.func106, rfl, by kernel_rfl⟩
theorem d_spec_l10Chain {es : List PV} {l : List P2} (hes : es = l.map P2.pv) (hb : l.length ≤ 16) (hok : ∀ p ∈ l, p.ok = true) : Does Try.prog 106 [.sl es] (.row ((chainF l).map P2.pv) 2 .free) [] := by
  refine does_of hT hM Try.func106 rfl (D := []) (by kernel_rfl) rfl rfl rfl (fun A K hA hK => ?_)
  have hlen : es.length = l.length := by simp [hes]
  cbv
  refine Ar.len_ hA (fun n hn hn' => ?_)
  cbv
  refine Ar.loop_ hA (α := Int × List PV) (fun x => (n - x.1).toNat) (fun (i, r) => 0 ≤ i ∧ i ≤ n ∧ r = (chainF (l.take i.toNat)).map P2.pv) 43 (fun (i, r) => [(0, .pv (.sl es) []), (3, .own 3 none), (6, .pv (.sl es) []), (7, .pv (i64 n) []), (8, .pv (i64 i) [])]) (fun (i, r) => [(3, some (.row r 2 .free false))]) (0, []) (by refine ⟨?_, ⟨?_, ?_, ?_, ?_, ?_, trivial⟩, ?_, trivial⟩ <;> cbv) ⟨by omega, by omega, rfl⟩ ?_
  intro ⟨i, r⟩ s f ⟨h1, h2, h3⟩
  cbv
  refine Ar.lss_ hA (fun h => ?_) (fun h => ?_)
  · cbv
    refine Ar.nn_ hA (by omega) ?_
    cbv
    refine Ar.toN_ hA (fun j hj => ?_)
    cbv
    obtain ⟨⟨px, py⟩, hp⟩ : ∃ p, l[j]? = some p := ⟨l[j]'(by omega), List.getElem?_eq_getElem _⟩
    refine Ar.idx_ hA (x := pt px py) (by simp [hes, hp, P2.pv]) ?_
    cbv
    have bp := ok_bounds hok hp
    obtain ⟨c, hc⟩ : ∃ c, c = chainF (l.take i.toNat) := ⟨_, rfl⟩
    have hcr : c.reverse = chainR (l.take i.toNat) := by rw [hc]; unfold chainF; rw [List.reverse_reverse]
    have hcl : c.length ≤ i.toNat := by rw [hc]; exact Nat.le_trans (chainF_len _) (by simp; omega)
    have hcok : ∀ (q : Nat) (x : P2), c[q]? = some x → x.ok = true := fun q (x : P2) hx => hok x (List.mem_of_mem_take (chainF_mem (by rw [← hc]; exact List.mem_of_getElem? hx)))
    have hnext : chainF (l.take (i.toNat + 1)) = (popR ⟨px, py⟩ c.reverse).reverse ++ [⟨px, py⟩] := by
      unfold chainF; rw [← hj, chainR_next hp, hj, hcr]; simp
    rw [← hc] at h3
    have hrl : r.length = c.length := by rw [h3]; simp
    have hrg : ∀ (k : Nat) (a b : Int), c[k]? = some ⟨a, b⟩ → r[k]? = some (pt a b) := fun k a b hk => by rw [h3, List.getElem?_map, hk]; rfl
    clear hc hcr
    refine Ar.loop_ hA (α := Bool × Nat) (fun x => x.2) (fun (b, m) => m ≤ c.length ∧ (b = true → m = c.length) ∧ popR ⟨px, py⟩ c.reverse = popR ⟨px, py⟩ (c.take m).reverse) 43 (fun (b, m) => [(0, .pv (.sl es) []), (3, cond b (.own 3 none) (.own 3 (some (0, m)))), (5, .ref 5 0), (6, .pv (.sl es) []), (7, .pv (i64 n) []), (8, .pv (i64 i) [])]) (fun (b, m) => [(5, some (.cell [.pv (i64 px) [], .pv (i64 py) []])), (3, some (.row r 2 .free false))]) (true, c.length) (by refine ⟨?_, ⟨?_, ?_, ?_, ?_, ?_, ?_, trivial⟩, ?_, ?_, trivial⟩ <;> cbv) ⟨by omega, by simp, by rw [List.take_of_length_le (Nat.le_refl _)]⟩ ?_
    intro ⟨b, m⟩ s f ⟨k1, k2, k3⟩
    have hd : (c.take m).length = m := by simp; omega
    have stop := popR_stop (p := ⟨px, py⟩) (c := c.take m) (m := m) hd.symm
    have go := fun a b => popR_go (p := ⟨px, py⟩) (c := c.take m) (m := m) (a := a) (b := b) hd.symm
    have fin : popR ⟨px, py⟩ (c.take m).reverse = (c.take m).reverse → ∀ i' r', i' = i + 1 → r' = r.take m ++ [pt px py] → r' = (chainF (l.take i'.toNat)).map P2.pv := fun e i' r' hi hr => by
      rw [show i'.toNat = i.toNat + 1 by omega, hnext, k3, e, hr, h3]; simp [List.map_take, P2.pv]
    have hsub : ∀ q, q < m → ((r.drop 0).take m)[q]? = r[q]? := fun q hq => by rw [List.drop_zero, List.getElem?_take_of_lt hq]
    have hct : ∀ q, q < m → (c.take m)[q]? = c[q]? := fun q hq => List.getElem?_take_of_lt hq
    cases b
    · clear k2
      cbv
      refine Ar.ofN_ hA (fun z hz hz' => ?_)
      cbv
      refine Ar.geq_ hA (fun g => ?_) (fun g => ?_)
      · obtain ⟨⟨ax, ay⟩, ha⟩ : ∃ p, c[m - 2]? = some p := ⟨c[m - 2]'(by omega), List.getElem?_eq_getElem _⟩
        obtain ⟨⟨b_x, b_y⟩, hb2⟩ : ∃ p, c[m - 1]? = some p := ⟨c[m - 1]'(by omega), List.getElem?_eq_getElem _⟩
        have ba : -1000 ≤ ax ∧ ax ≤ 1000 ∧ -1000 ≤ ay ∧ ay ≤ 1000 := P2.ok_iff.1 (hcok _ _ ha)
        have bb : -1000 ≤ b_x ∧ b_x ≤ 1000 ∧ -1000 ≤ b_y ∧ b_y ≤ 1000 := P2.ok_iff.1 (hcok _ _ hb2)
        have ra := hrg _ _ _ ha
        have rb := hrg _ _ _ hb2
        have sa := (hsub (m - 2) (by omega)).trans ra
        have sb := (hsub (m - 1) (by omega)).trans rb
        have ta := (hct (m - 2) (by omega)).trans ha
        have tb := (hct (m - 1) (by omega)).trans hb2
        cbv
        repeat' (first
          | (refine Ar.ofN_ hA (fun z1 hz1 hz1' => ?_); cbv)
          | (refine Ar.sub_ hA (by omega) (fun z2 hz2 => ?_); cbv)
          | (refine Ar.nn_ hA (by omega) ?_; cbv)
          | (refine Ar.toN_ hA (fun j2 hj2 => ?_); cbv)
          | (refine Ar.idxS_ hA (x := pt ax ay) (by rw [show j2 = m - 2 by omega]; exact sa) ?_; cbv)
          | (refine Ar.idxS_ hA (x := pt b_x b_y) (by rw [show j2 = m - 1 by omega]; exact sb) ?_; cbv)
          | (refine Ar.addN_ hA (fun j3 hj3 => ?_); cbv)
          | (refine Ar.idx_ hA (x := pt ax ay) (by rw [show j3 = m - 2 by omega]; exact ra) ?_; cbv)
          | (refine Ar.idx_ hA (x := pt b_x b_y) (by rw [show j3 = m - 1 by omega]; exact rb) ?_; cbv))
        refine Ar.callI hA c_spec_l8Orient (d_spec_l8Orient ba bb bp) rfl (fun o ho => ?_)
        cbv
        refine Ar.leq_ hA (fun hx => ?_) (fun hx => ?_)
        · have nx := go _ _ (by omega) ta tb (by omega)
          rw [List.take_take, show min (m - 1) m = m - 1 by omega] at nx
          cbv
          repeat' (first
            | (refine Ar.ofN_ hA (fun z1 hz1 hz1' => ?_); cbv)
            | (refine Ar.sub_ hA (by omega) (fun z2 hz2 => ?_); cbv)
            | (refine Ar.lenN_ hA (fun n5 hn5 => ?_); cbv)
            | (refine Ar.nn_ hA (by omega) ?_; cbv)
            | (refine Ar.toN_ hA (fun j5 hj5 => ?_); cbv)
            | (refine Ar.rng_ hA (by omega) ?_; cbv)
            | (refine Ar.addN_ hA (fun p0 hp0 => ?_); cbv)
            | (refine Ar.subL_ hA (fun q0 hq0 => ?_); cbv)
            | (refine Ar.subN_ hA (fun m' hm' => ?_); cbv))
          obtain rfl : p0 = 0 := by omega
          exact ⟨(false, m'), (by show m' < m; omega), ⟨by omega, by simp, by rw [k3, nx, show m' = m - 1 by omega]⟩, (by refine ⟨?_, ⟨?_, ?_, ?_, ?_, ?_, ?_, trivial⟩, ?_, ?_, trivial⟩ <;> cbv)⟩
        · have done := fin (stop (.inr ⟨_, _, ta, tb, by omega⟩))
          clear fin stop go
          cbv
          refine Ar.appS_ hA (fun r' hr' => ?_)
          have hrr : r' = r.take m ++ [pt px py] := by rw [hr', List.drop_zero]
          cbv
          refine Ar.fitsL_ hA (by rw [hrr, List.length_append, List.length_take]; simp only [List.length_singleton]; omega) ?_
          cbv
          refine Ar.add_ hA (by omega) (fun i' hi' => ?_)
          cbv
          exact ⟨(i', r'), (by show (n - i').toNat < (n - i).toNat; omega), ⟨by omega, by omega, done i' r' hi' hrr⟩, (by refine ⟨?_, ⟨?_, ?_, ?_, ?_, ?_, trivial⟩, ?_, trivial⟩ <;> cbv)⟩
      · have done := fin (stop (.inl (by omega)))
        clear fin stop go
        cbv
        refine Ar.appS_ hA (fun r' hr' => ?_)
        have hrr : r' = r.take m ++ [pt px py] := by rw [hr', List.drop_zero]
        cbv
        refine Ar.fitsL_ hA (by rw [hrr, List.length_append, List.length_take]; simp only [List.length_singleton]; omega) ?_
        cbv
        refine Ar.add_ hA (by omega) (fun i' hi' => ?_)
        cbv
        exact ⟨(i', r'), (by show (n - i').toNat < (n - i).toNat; omega), ⟨by omega, by omega, done i' r' hi' hrr⟩, (by refine ⟨?_, ⟨?_, ?_, ?_, ?_, ?_, trivial⟩, ?_, trivial⟩ <;> cbv)⟩
    · have k2 := k2 rfl
      cbv
      refine Ar.len_ hA (fun z hz hz' => ?_)
      cbv
      refine Ar.geq_ hA (fun g => ?_) (fun g => ?_)
      · obtain ⟨⟨ax, ay⟩, ha⟩ : ∃ p, c[m - 2]? = some p := ⟨c[m - 2]'(by omega), List.getElem?_eq_getElem _⟩
        obtain ⟨⟨b_x, b_y⟩, hb2⟩ : ∃ p, c[m - 1]? = some p := ⟨c[m - 1]'(by omega), List.getElem?_eq_getElem _⟩
        have ba : -1000 ≤ ax ∧ ax ≤ 1000 ∧ -1000 ≤ ay ∧ ay ≤ 1000 := P2.ok_iff.1 (hcok _ _ ha)
        have bb : -1000 ≤ b_x ∧ b_x ≤ 1000 ∧ -1000 ≤ b_y ∧ b_y ≤ 1000 := P2.ok_iff.1 (hcok _ _ hb2)
        have ra := hrg _ _ _ ha
        have rb := hrg _ _ _ hb2
        have sa := (hsub (m - 2) (by omega)).trans ra
        have sb := (hsub (m - 1) (by omega)).trans rb
        have ta := (hct (m - 2) (by omega)).trans ha
        have tb := (hct (m - 1) (by omega)).trans hb2
        cbv
        repeat' (first
          | (refine Ar.len_ hA (fun z1 hz1 hz1' => ?_); cbv)
          | (refine Ar.sub_ hA (by omega) (fun z2 hz2 => ?_); cbv)
          | (refine Ar.nn_ hA (by omega) ?_; cbv)
          | (refine Ar.toN_ hA (fun j2 hj2 => ?_); cbv)
          | (refine Ar.idx_ hA (x := pt ax ay) (by rw [show j2 = m - 2 by omega]; exact ra) ?_; cbv)
          | (refine Ar.idx_ hA (x := pt b_x b_y) (by rw [show j2 = m - 1 by omega]; exact rb) ?_; cbv))
        refine Ar.callI hA c_spec_l8Orient (d_spec_l8Orient ba bb bp) rfl (fun o ho => ?_)
        cbv
        refine Ar.leq_ hA (fun hx => ?_) (fun hx => ?_)
        · have nx := go _ _ (by omega) ta tb (by omega)
          rw [List.take_take, show min (m - 1) m = m - 1 by omega] at nx
          cbv
          repeat' (first
            | (refine Ar.len_ hA (fun z1 hz1 hz1' => ?_); cbv)
            | (refine Ar.sub_ hA (by omega) (fun z2 hz2 => ?_); cbv)
            | (refine Ar.lenN_ hA (fun n5 hn5 => ?_); cbv)
            | (refine Ar.nn_ hA (by omega) ?_; cbv)
            | (refine Ar.toN_ hA (fun j5 hj5 => ?_); cbv)
            | (refine Ar.rng_ hA (by omega) ?_; cbv)
            | (refine Ar.addN_ hA (fun p0 hp0 => ?_); cbv)
            | (refine Ar.subL_ hA (fun q0 hq0 => ?_); cbv)
            | (refine Ar.subN_ hA (fun m' hm' => ?_); cbv))
          exact ⟨(false, m'), (by show m' < m; omega), ⟨by omega, by simp, by rw [k3, nx, show m' = m - 1 by omega]⟩, (by refine ⟨?_, ⟨?_, ?_, ?_, ?_, ?_, ?_, trivial⟩, ?_, ?_, trivial⟩ <;> cbv)⟩
        · have done := fin (stop (.inr ⟨_, _, ta, tb, by omega⟩))
          clear fin stop go
          cbv
          refine Ar.app_ hA (fun r' hr' => ?_)
          have hrr : r' = r.take m ++ [pt px py] := by rw [hr', List.take_of_length_le (by omega)]
          cbv
          refine Ar.fitsL_ hA (by rw [hrr, List.length_append, List.length_take]; simp only [List.length_singleton]; omega) ?_
          cbv
          refine Ar.add_ hA (by omega) (fun i' hi' => ?_)
          cbv
          exact ⟨(i', r'), (by show (n - i').toNat < (n - i).toNat; omega), ⟨by omega, by omega, done i' r' hi' hrr⟩, (by refine ⟨?_, ⟨?_, ?_, ?_, ?_, ?_, trivial⟩, ?_, trivial⟩ <;> cbv)⟩
      · have done := fin (stop (.inl (by omega)))
        clear fin stop go
        cbv
        refine Ar.app_ hA (fun r' hr' => ?_)
        have hrr : r' = r.take m ++ [pt px py] := by rw [hr', List.take_of_length_le (by omega)]
        cbv
        refine Ar.fitsL_ hA (by rw [hrr, List.length_append, List.length_take]; simp only [List.length_singleton]; omega) ?_
        cbv
        refine Ar.add_ hA (by omega) (fun i' hi' => ?_)
        cbv
        exact ⟨(i', r'), (by show (n - i').toNat < (n - i).toNat; omega), ⟨by omega, by omega, done i' r' hi' hrr⟩, (by refine ⟨?_, ⟨?_, ?_, ?_, ?_, ?_, trivial⟩, ?_, trivial⟩ <;> cbv)⟩
  · rw [show i.toNat = l.length by omega, List.take_of_length_le (Nat.le_refl _)] at h3
    cbv
    exact hK _ _ (by rw [h3]) rfl

def sideF (l : List P2) : List P2 := (chainF l).dropLast

theorem c_impl_sideOf : Callable Try.prog 107 := ⟨_, Try.func107, rfl, by kernel_rfl⟩
theorem d_impl_sideOf {es : List PV} {l : List P2} (hes : es = l.map P2.pv) (hb : l.length ≤ 16) (h0 : 0 < l.length) (hok : ∀ p ∈ l, p.ok = true) : Does Try.prog 107 [.sl es] (.row ((sideF l).map P2.pv) 2 .free) [] := by
  refine does_of hT hM Try.func107 rfl (D := []) (by kernel_rfl) rfl rfl rfl (fun A K hA hK => ?_)
  have hlen : es.length = l.length := by simp [hes]
  cbv
  refine Ar.len_ hA (fun n hn hn' => ?_)
  cbv
  refine Ar.loop_ hA (α := Int × List PV) (fun x => (n - x.1).toNat) (fun (i, r) => 0 ≤ i ∧ i ≤ n ∧ r = (chainF (l.take i.toNat)).map P2.pv) 49 (fun (i, r) => [(0, .pv (.sl es) []), (3, .own 7 none), (8, .pv (.sl es) []), (9, .pv (i64 n) []), (10, .pv (i64 i) [])]) (fun (i, r) => [(7, some (.row r 2 .free false))]) (0, []) (by refine ⟨?_, ⟨?_, ?_, ?_, ?_, ?_, trivial⟩, ?_, trivial⟩ <;> cbv) ⟨by omega, by omega, rfl⟩ ?_
  intro ⟨i, r⟩ s f ⟨h1, h2, h3⟩
  cbv
  refine Ar.lss_ hA (fun h => ?_) (fun h => ?_)
  · cbv
    refine Ar.nn_ hA (by omega) ?_
    cbv
    refine Ar.toN_ hA (fun j hj => ?_)
    cbv
    obtain ⟨⟨px, py⟩, hp⟩ : ∃ p, l[j]? = some p := ⟨l[j]'(by omega), List.getElem?_eq_getElem _⟩
    refine Ar.idx_ hA (x := pt px py) (by simp [hes, hp, P2.pv]) ?_
    cbv
    have bp := ok_bounds hok hp
    obtain ⟨c, hc⟩ : ∃ c, c = chainF (l.take i.toNat) := ⟨_, rfl⟩
    have hcr : c.reverse = chainR (l.take i.toNat) := by rw [hc]; unfold chainF; rw [List.reverse_reverse]
    have hcl : c.length ≤ i.toNat := by rw [hc]; exact Nat.le_trans (chainF_len _) (by simp; omega)
    have hcok : ∀ (q : Nat) (x : P2), c[q]? = some x → x.ok = true := fun q (x : P2) hx => hok x (List.mem_of_mem_take (chainF_mem (by rw [← hc]; exact List.mem_of_getElem? hx)))
    have hnext : chainF (l.take (i.toNat + 1)) = (popR ⟨px, py⟩ c.reverse).reverse ++ [⟨px, py⟩] := by
      unfold chainF; rw [← hj, chainR_next hp, hj, hcr]; simp
    rw [← hc] at h3
    have hrl : r.length = c.length := by rw [h3]; simp
    have hrg : ∀ (k : Nat) (a b : Int), c[k]? = some ⟨a, b⟩ → r[k]? = some (pt a b) := fun k a b hk => by rw [h3, List.getElem?_map, hk]; rfl
    clear hc hcr
    refine Ar.len_ hA (fun y0 hy0 hy0' => ?_)
    cbv
    refine Ar.loop_ hA (α := Bool × Nat × Int) (fun x => x.2.1) (fun (b, m, z) => m ≤ c.length ∧ (b = true → m = c.length) ∧ 0 ≤ z ∧ z.toNat = m ∧ popR ⟨px, py⟩ c.reverse = popR ⟨px, py⟩ (c.take m).reverse) 49 (fun (b, m, z) => [(0, .pv (.sl es) []), (3, cond b (.own 7 none) (.own 7 (some (0, m)))), (5, .ref 5 0), (6, .pv (i64 z) []), (8, .pv (.sl es) []), (9, .pv (i64 n) []), (10, .pv (i64 i) [])]) (fun (b, m, z) => [(5, some (.cell [.pv (i64 px) [], .pv (i64 py) []])), (7, some (.row r 2 .free false))]) (true, c.length, y0) (by refine ⟨?_, ⟨?_, ?_, ?_, ?_, ?_, ?_, ?_, trivial⟩, ?_, ?_, trivial⟩ <;> cbv) ⟨by omega, by simp, by omega, by omega, by rw [List.take_of_length_le (Nat.le_refl _)]⟩ ?_
    intro ⟨b, m, z⟩ s f ⟨k1, k2, hz, hz', k3⟩
    have hd : (c.take m).length = m := by simp; omega
    have stop := popR_stop (p := ⟨px, py⟩) (c := c.take m) (m := m) hd.symm
    have go := fun a b => popR_go (p := ⟨px, py⟩) (c := c.take m) (m := m) (a := a) (b := b) hd.symm
    have fin : popR ⟨px, py⟩ (c.take m).reverse = (c.take m).reverse → ∀ i' r', i' = i + 1 → r' = r.take m ++ [pt px py] → r' = (chainF (l.take i'.toNat)).map P2.pv := fun e i' r' hi hr => by
      rw [show i'.toNat = i.toNat + 1 by omega, hnext, k3, e, hr, h3]; simp [List.map_take, P2.pv]
    have hsub : ∀ q, q < m → ((r.drop 0).take m)[q]? = r[q]? := fun q hq => by rw [List.drop_zero, List.getElem?_take_of_lt hq]
    have hct : ∀ q, q < m → (c.take m)[q]? = c[q]? := fun q hq => List.getElem?_take_of_lt hq
    cases b
    · clear k2
      cbv
      refine Ar.geq_ hA (fun g => ?_) (fun g => ?_)
      · obtain ⟨⟨ax, ay⟩, ha⟩ : ∃ p, c[m - 2]? = some p := ⟨c[m - 2]'(by omega), List.getElem?_eq_getElem _⟩
        obtain ⟨⟨b_x, b_y⟩, hb2⟩ : ∃ p, c[m - 1]? = some p := ⟨c[m - 1]'(by omega), List.getElem?_eq_getElem _⟩
        have ba : -1000 ≤ ax ∧ ax ≤ 1000 ∧ -1000 ≤ ay ∧ ay ≤ 1000 := P2.ok_iff.1 (hcok _ _ ha)
        have bb : -1000 ≤ b_x ∧ b_x ≤ 1000 ∧ -1000 ≤ b_y ∧ b_y ≤ 1000 := P2.ok_iff.1 (hcok _ _ hb2)
        have ra := hrg _ _ _ ha
        have rb := hrg _ _ _ hb2
        have sa := (hsub (m - 2) (by omega)).trans ra
        have sb := (hsub (m - 1) (by omega)).trans rb
        have ta := (hct (m - 2) (by omega)).trans ha
        have tb := (hct (m - 1) (by omega)).trans hb2
        cbv
        repeat' (first
          | (refine Ar.ofN_ hA (fun z1 hz1 hz1' => ?_); cbv)
          | (refine Ar.sub_ hA (by omega) (fun z2 hz2 => ?_); cbv)
          | (refine Ar.nn_ hA (by omega) ?_; cbv)
          | (refine Ar.toN_ hA (fun j2 hj2 => ?_); cbv)
          | (refine Ar.idxS_ hA (x := pt ax ay) (by rw [show j2 = m - 2 by omega]; exact sa) ?_; cbv)
          | (refine Ar.idxS_ hA (x := pt b_x b_y) (by rw [show j2 = m - 1 by omega]; exact sb) ?_; cbv)
          | (refine Ar.addN_ hA (fun j3 hj3 => ?_); cbv)
          | (refine Ar.idx_ hA (x := pt ax ay) (by rw [show j3 = m - 2 by omega]; exact ra) ?_; cbv)
          | (refine Ar.idx_ hA (x := pt b_x b_y) (by rw [show j3 = m - 1 by omega]; exact rb) ?_; cbv))
        refine Ar.callI hA c_impl_orient (d_impl_orient ba bb bp) rfl (fun o ho => ?_)
        cbv
        refine Ar.leq_ hA (fun hx => ?_) (fun hx => ?_)
        · have nx := go _ _ (by omega) ta tb (by omega)
          rw [List.take_take, show min (m - 1) m = m - 1 by omega] at nx
          cbv
          repeat' (first
            | (refine Ar.len_ hA (fun z1 hz1 hz1' => ?_); cbv)
            | (refine Ar.ofN_ hA (fun z1 hz1 hz1' => ?_); cbv)
            | (refine Ar.sub_ hA (by omega) (fun z2 hz2 => ?_); cbv)
            | (refine Ar.lenN_ hA (fun n5 hn5 => ?_); cbv)
            | (refine Ar.nn_ hA (by omega) ?_; cbv)
            | (refine Ar.toN_ hA (fun j5 hj5 => ?_); cbv)
            | (refine Ar.rng_ hA (by omega) ?_; cbv)
            | (refine Ar.addN_ hA (fun p0 hp0 => ?_); cbv)
            | (refine Ar.subL_ hA (fun q0 hq0 => ?_); cbv)
            | (refine Ar.subN_ hA (fun m' hm' => ?_); cbv))
          obtain rfl : p0 = 0 := by omega
          exact ⟨(false, m', z1), (by show m' < m; omega), ⟨by omega, by simp, by omega, by omega, by rw [k3, nx, show m' = m - 1 by omega]⟩, (by refine ⟨?_, ⟨?_, ?_, ?_, ?_, ?_, ?_, ?_, trivial⟩, ?_, ?_, trivial⟩ <;> cbv)⟩
        · have done := fin (stop (.inr ⟨_, _, ta, tb, by omega⟩))
          clear fin stop go
          cbv
          refine Ar.appS_ hA (fun r' hr' => ?_)
          have hrr : r' = r.take m ++ [pt px py] := by rw [hr', List.drop_zero]
          cbv
          refine Ar.fitsL_ hA (by rw [hrr, List.length_append, List.length_take]; simp only [List.length_singleton]; omega) ?_
          cbv
          refine Ar.add_ hA (by omega) (fun i' hi' => ?_)
          cbv
          exact ⟨(i', r'), (by show (n - i').toNat < (n - i).toNat; omega), ⟨by omega, by omega, done i' r' hi' hrr⟩, (by refine ⟨?_, ⟨?_, ?_, ?_, ?_, ?_, trivial⟩, ?_, trivial⟩ <;> cbv)⟩
      · have done := fin (stop (.inl (by omega)))
        clear fin stop go
        cbv
        refine Ar.appS_ hA (fun r' hr' => ?_)
        have hrr : r' = r.take m ++ [pt px py] := by rw [hr', List.drop_zero]
        cbv
        refine Ar.fitsL_ hA (by rw [hrr, List.length_append, List.length_take]; simp only [List.length_singleton]; omega) ?_
        cbv
        refine Ar.add_ hA (by omega) (fun i' hi' => ?_)
        cbv
        exact ⟨(i', r'), (by show (n - i').toNat < (n - i).toNat; omega), ⟨by omega, by omega, done i' r' hi' hrr⟩, (by refine ⟨?_, ⟨?_, ?_, ?_, ?_, ?_, trivial⟩, ?_, trivial⟩ <;> cbv)⟩
    · have k2 := k2 rfl
      cbv
      refine Ar.geq_ hA (fun g => ?_) (fun g => ?_)
      · obtain ⟨⟨ax, ay⟩, ha⟩ : ∃ p, c[m - 2]? = some p := ⟨c[m - 2]'(by omega), List.getElem?_eq_getElem _⟩
        obtain ⟨⟨b_x, b_y⟩, hb2⟩ : ∃ p, c[m - 1]? = some p := ⟨c[m - 1]'(by omega), List.getElem?_eq_getElem _⟩
        have ba : -1000 ≤ ax ∧ ax ≤ 1000 ∧ -1000 ≤ ay ∧ ay ≤ 1000 := P2.ok_iff.1 (hcok _ _ ha)
        have bb : -1000 ≤ b_x ∧ b_x ≤ 1000 ∧ -1000 ≤ b_y ∧ b_y ≤ 1000 := P2.ok_iff.1 (hcok _ _ hb2)
        have ra := hrg _ _ _ ha
        have rb := hrg _ _ _ hb2
        have sa := (hsub (m - 2) (by omega)).trans ra
        have sb := (hsub (m - 1) (by omega)).trans rb
        have ta := (hct (m - 2) (by omega)).trans ha
        have tb := (hct (m - 1) (by omega)).trans hb2
        cbv
        repeat' (first
          | (refine Ar.len_ hA (fun z1 hz1 hz1' => ?_); cbv)
          | (refine Ar.sub_ hA (by omega) (fun z2 hz2 => ?_); cbv)
          | (refine Ar.nn_ hA (by omega) ?_; cbv)
          | (refine Ar.toN_ hA (fun j2 hj2 => ?_); cbv)
          | (refine Ar.idx_ hA (x := pt ax ay) (by rw [show j2 = m - 2 by omega]; exact ra) ?_; cbv)
          | (refine Ar.idx_ hA (x := pt b_x b_y) (by rw [show j2 = m - 1 by omega]; exact rb) ?_; cbv))
        refine Ar.callI hA c_impl_orient (d_impl_orient ba bb bp) rfl (fun o ho => ?_)
        cbv
        refine Ar.leq_ hA (fun hx => ?_) (fun hx => ?_)
        · have nx := go _ _ (by omega) ta tb (by omega)
          rw [List.take_take, show min (m - 1) m = m - 1 by omega] at nx
          cbv
          repeat' (first
            | (refine Ar.len_ hA (fun z1 hz1 hz1' => ?_); cbv)
            | (refine Ar.ofN_ hA (fun z1 hz1 hz1' => ?_); cbv)
            | (refine Ar.sub_ hA (by omega) (fun z2 hz2 => ?_); cbv)
            | (refine Ar.lenN_ hA (fun n5 hn5 => ?_); cbv)
            | (refine Ar.nn_ hA (by omega) ?_; cbv)
            | (refine Ar.toN_ hA (fun j5 hj5 => ?_); cbv)
            | (refine Ar.rng_ hA (by omega) ?_; cbv)
            | (refine Ar.addN_ hA (fun p0 hp0 => ?_); cbv)
            | (refine Ar.subL_ hA (fun q0 hq0 => ?_); cbv)
            | (refine Ar.subN_ hA (fun m' hm' => ?_); cbv))
          exact ⟨(false, m', z1), (by show m' < m; omega), ⟨by omega, by simp, by omega, by omega, by rw [k3, nx, show m' = m - 1 by omega]⟩, (by refine ⟨?_, ⟨?_, ?_, ?_, ?_, ?_, ?_, ?_, trivial⟩, ?_, ?_, trivial⟩ <;> cbv)⟩
        · have done := fin (stop (.inr ⟨_, _, ta, tb, by omega⟩))
          clear fin stop go
          cbv
          refine Ar.app_ hA (fun r' hr' => ?_)
          have hrr : r' = r.take m ++ [pt px py] := by rw [hr', List.take_of_length_le (by omega)]
          cbv
          refine Ar.fitsL_ hA (by rw [hrr, List.length_append, List.length_take]; simp only [List.length_singleton]; omega) ?_
          cbv
          refine Ar.add_ hA (by omega) (fun i' hi' => ?_)
          cbv
          exact ⟨(i', r'), (by show (n - i').toNat < (n - i).toNat; omega), ⟨by omega, by omega, done i' r' hi' hrr⟩, (by refine ⟨?_, ⟨?_, ?_, ?_, ?_, ?_, trivial⟩, ?_, trivial⟩ <;> cbv)⟩
      · have done := fin (stop (.inl (by omega)))
        clear fin stop go
        cbv
        refine Ar.app_ hA (fun r' hr' => ?_)
        have hrr : r' = r.take m ++ [pt px py] := by rw [hr', List.take_of_length_le (by omega)]
        cbv
        refine Ar.fitsL_ hA (by rw [hrr, List.length_append, List.length_take]; simp only [List.length_singleton]; omega) ?_
        cbv
        refine Ar.add_ hA (by omega) (fun i' hi' => ?_)
        cbv
        exact ⟨(i', r'), (by show (n - i').toNat < (n - i).toNat; omega), ⟨by omega, by omega, done i' r' hi' hrr⟩, (by refine ⟨?_, ⟨?_, ?_, ?_, ?_, ?_, trivial⟩, ?_, trivial⟩ <;> cbv)⟩
  · rw [show i.toNat = l.length by omega, List.take_of_length_le (Nat.le_refl _)] at h3
    have hcp := chainF_pos h0
    have hcl := chainF_len l
    have hrl : r.length = (chainF l).length := by rw [h3]; simp
    have hfin : (r.drop 0).take (r.length - 1) = (sideF l).map P2.pv := by
      unfold sideF
      rw [List.drop_zero, hrl, h3, List.dropLast_eq_take, List.map_take]
    cbv
    repeat' (first
      | (refine Ar.len_ hA (fun z1 hz1 hz1' => ?_); cbv)
      | (refine Ar.sub_ hA (by omega) (fun z2 hz2 => ?_); cbv)
      | (refine Ar.lenN_ hA (fun n5 hn5 => ?_); cbv)
      | (refine Ar.nn_ hA (by omega) ?_; cbv)
      | (refine Ar.toN_ hA (fun j5 hj5 => ?_); cbv)
      | (refine Ar.rng_ hA (by omega) ?_; cbv)
      | (refine Ar.subN_ hA (fun m' hm' => ?_); cbv))
    exact hK _ _ (by subst hA; show RS.row ((r.drop 0).take m') 2 .free = _; rw [show m' = r.length - 1 by omega, hfin]) rfl

end Go.VAI
