/- The points in order, each once. -/
import Derived.Test.YtidbgfknaopkkaaZ0
import Derived.Test.YtidbgfknaopkkaaY
namespace Go.VAI
open Go.Proofs
set_option maxRecDepth 100000
set_option maxHeartbeats 8000000

theorem Ar.slN_ {P : Program} {A : Ar} (hA : stdA P = A) {l : List PV} {o h o' : Nat} {K : List PV → Prop} (k : ∀ r, r = (l.drop o).take (h - o') → K r) : A.row (A.sub l o (A.subN h o')) K := by subst hA; exact k _ rfl
theorem wide_pts {l : List P2} {es : List PV} (hes : es = l.map P2.pv) (fl : Bool) : ∀ x ∈ es, (leaves x).length = 2 ∧ (fl = true → isFree x = true) := by
  intro x hx; rw [hes] at hx; obtain ⟨y, _, rfl⟩ := List.mem_map.1 hx; exact ⟨rfl, fun _ => rfl⟩
theorem wide_sub {l : List P2} {es r : List PV} {o n : Nat} (hes : es = l.map P2.pv) (hr : r = (es.drop o).take n) (fl : Bool) : ∀ x ∈ r, (leaves x).length = 2 ∧ (fl = true → isFree x = true) := by
  intro x hx; rw [hr] at hx; exact wide_pts hes fl x (List.mem_of_mem_drop (List.mem_of_mem_take hx))

/-- A point put where it belongs, if it is not there yet. -/
def insP (p : P2) : List P2 → List P2
  | [] => [p]
  | a :: l => if lexLess a p then a :: insP p l else if a = p then a :: l else p :: a :: l
def sortF (l : List P2) : List P2 := l.foldl (fun out p => insP p out) []
theorem sortF_next {l : List P2} {i : Nat} {p : P2} (h : l[i]? = some p) : sortF (l.take (i + 1)) = insP p (sortF (l.take i)) := foldl_take (fun out p => insP p out) [] h

theorem insP_at {p : P2} : ∀ {l : List P2} (k : Nat), k ≤ l.length → (∀ q, q < k → ∃ a, l[q]? = some a ∧ lexLess a p = true) → (l[k]? = none ∨ ∃ x, l[k]? = some x ∧ lexLess x p = false) →
    insP p l = if l[k]? = some p then l else l.take k ++ [p] ++ l.drop k
  | [], k, hk, _, _ => by
    have : k = 0 := by simpa using hk
    subst this
    simp [insP]
  | a :: l, 0, _, _, h => by
    have h : lexLess a p = false := by
      rcases h with h | ⟨x, h, hx⟩
      · simp at h
      · simp at h; rw [h]; exact hx
    by_cases e : a = p
    · subst e
      simp [insP, h]
    · simp [insP, h, e]
  | a :: l, k + 1, hk, h, h2 => by
    obtain ⟨b, hb, hl⟩ := h 0 (by omega)
    simp at hb
    subst hb
    have ih := insP_at (p := p) (l := l) k (by simpa using hk) (fun q hq => by simpa using h (q + 1) (by omega)) (by simpa using h2)
    rw [insP, if_pos hl, ih]
    simp only [List.getElem?_cons_succ, List.take_succ_cons, List.drop_succ_cons]
    split <;> simp

theorem insP_mem {p x : P2} : ∀ {l : List P2}, x ∈ insP p l ↔ x = p ∨ x ∈ l
  | [] => by simp [insP]
  | a :: l => by
    rw [insP]
    split
    · rw [List.mem_cons, insP_mem, List.mem_cons]
      constructor
      · rintro (h | h | h) <;> simp [h]
      · rintro (h | h | h) <;> simp [h]
    · split
      · rename_i e
        subst e
        simp
      · simp
theorem insP_len {p : P2} : ∀ {l : List P2}, (insP p l).length ≤ l.length + 1
  | [] => by simp [insP]
  | a :: l => by
    rw [insP]
    split
    · have := insP_len (p := p) (l := l); simp; omega
    · split <;> simp
theorem insP_sorted {p : P2} : ∀ {l : List P2}, (l.Pairwise fun x y => lexLess x y = true) → (insP p l).Pairwise fun x y => lexLess x y = true
  | [], _ => List.pairwise_singleton _ _
  | a :: l, h => by
    rw [List.pairwise_cons] at h
    rw [insP]
    split
    · rename_i hl
      rw [List.pairwise_cons]
      refine ⟨fun x hx => ?_, insP_sorted h.2⟩
      rcases insP_mem.1 hx with rfl | hx
      · exact hl
      · exact h.1 x hx
    · rename_i hl
      split
      · rw [List.pairwise_cons]; exact h
      · rename_i hne
        have hpa : lexLess p a = true := by
          rw [Bool.not_eq_true, lex_not] at hl
          rw [lex_iff]
          have : ¬(a.x = p.x ∧ a.y = p.y) := fun e => hne (P2.eq_of e.1 e.2)
          omega
        rw [List.pairwise_cons, List.pairwise_cons]
        refine ⟨fun x hx => ?_, h⟩
        rcases List.mem_cons.1 hx with rfl | hx
        · exact hpa
        · have h1 := h.1 x hx
          rw [lex_iff] at h1 hpa ⊢
          omega
theorem sortF_aux : ∀ (l c : List P2), (c.Pairwise fun x y => lexLess x y = true) → ((l.foldl (fun out p => insP p out) c).Pairwise fun x y => lexLess x y = true) ∧ (∀ x, x ∈ l.foldl (fun out p => insP p out) c ↔ x ∈ c ∨ x ∈ l) ∧ (l.foldl (fun out p => insP p out) c).length ≤ c.length + l.length
  | [], c, h => ⟨h, fun x => by simp, by simp⟩
  | p :: l, c, h => by
    obtain ⟨h1, h2, h3⟩ := sortF_aux l (insP p c) (insP_sorted h)
    refine ⟨h1, fun x => ?_, ?_⟩
    · rw [List.foldl_cons, h2, insP_mem, List.mem_cons]
      constructor
      · rintro ((h | h) | h) <;> simp [h]
      · rintro (h | h | h) <;> simp [h]
    · have := insP_len (p := p) (l := c)
      rw [List.foldl_cons, List.length_cons]; omega
theorem sortF_len (l : List P2) : (sortF l).length ≤ l.length := by have := (sortF_aux l [] .nil).2.2; simpa [sortF] using this
theorem sortF_mem {l : List P2} {x : P2} : x ∈ sortF l ↔ x ∈ l := by have := (sortF_aux l [] .nil).2.1 x; simpa [sortF] using this
theorem sortF_sorted (l : List P2) : (sortF l).Pairwise fun x y => lexLess x y = true := (sortF_aux l [] .nil).1

theorem strict_ext : ∀ {a b : List P2}, (a.Pairwise fun x y => lexLess x y = true) → (b.Pairwise fun x y => lexLess x y = true) → (∀ x, x ∈ a ↔ x ∈ b) → a = b
  | [], [], _, _, _ => rfl
  | [], y :: b, _, _, h => absurd ((h y).2 (by simp)) (by simp)
  | x :: a, [], _, _, h => absurd ((h x).1 (by simp)) (by simp)
  | x :: a, y :: b, ha, hb, h => by
    rw [List.pairwise_cons] at ha hb
    have irr : ∀ z w : P2, lexLess z w = true → lexLess w z = true → False := fun z w h1 h2 => by rw [lex_iff] at h1 h2; omega
    have hxy : x = y := by
      rcases List.mem_cons.1 ((h x).1 (by simp)) with e | hx
      · exact e
      · rcases List.mem_cons.1 ((h y).2 (by simp)) with e | hy
        · exact e.symm
        · exact (irr _ _ (hb.1 x hx) (ha.1 y hy)).elim
    subst hxy
    refine congrArg (x :: ·) (strict_ext ha.2 hb.2 (fun z => ?_))
    have hz := h z
    simp only [List.mem_cons] at hz
    constructor
    · intro hza
      rcases hz.1 (.inr hza) with e | hzb
      · subst e; exact (irr _ _ (ha.1 _ hza) (ha.1 _ hza)).elim
      · exact hzb
    · intro hzb
      rcases hz.2 (.inr hzb) with e | hza
      · subst e; exact (irr _ _ (hb.1 _ hzb) (hb.1 _ hzb)).elim
      · exact hza

theorem sort_same (l : List P2) : compF (sortP l) = sortF l :=
  strict_ext (compF_sorted (sortP_sorted l)) (sortF_sorted l) (fun x => by rw [compF_mem, sortF_mem]; exact (sortP_perm l).mem_iff)

theorem c_spec_l10Sort : Callable Try.prog 69 := ⟨_, Try.func69, rfl, by kernel_rfl⟩
theorem d_spec_l10Sort {es : List PV} {l : List P2} (hes : es = l.map P2.pv) (hb : l.length ≤ 16) : Does Try.prog 69 [.sl es] (.row ((sortF l).map P2.pv) 2 .free) [] := by
  refine does_of hT hM Try.func69 rfl (D := []) (by kernel_rfl) rfl rfl rfl (fun A K hA hK => ?_)
  have hlen : es.length = l.length := by simp [hes]
  cbv
  refine Ar.len_ hA (fun n hn hn' => ?_)
  cbv
  refine Ar.loop_ hA (α := Bool × Int × List PV) (fun x => (n - x.2.1).toNat) (fun (b, i, r) => 0 ≤ i ∧ i ≤ n ∧ r = (sortF (l.take i.toNat)).map P2.pv) 56 (fun (b, i, r) => [(0, .pv (.sl es) []), (3, cond b (.own 3 none) (.own 40 none)), (8, .pv (.sl es) []), (9, .pv (i64 n) []), (10, .pv (i64 i) [])]) (fun (b, i, r) => [(cond b 3 40, some (.row r 2 .free false))]) (true, 0, []) (by refine ⟨?_, ⟨?_, ?_, ?_, ?_, ?_, trivial⟩, ?_, trivial⟩ <;> cbv) ⟨by omega, by omega, rfl⟩ ?_
  intro ⟨b, i, r⟩ s f ⟨h1, h2, h3⟩
  cases b
  rotate_left
  · cbv
    refine Ar.lss_ hA (fun h => ?_) (fun h => ?_)
    · cbv
      refine Ar.nn_ hA (by omega) ?_
      cbv
      refine Ar.toN_ hA (fun j hj => ?_)
      cbv
      obtain ⟨⟨px, py⟩, hp⟩ : ∃ p, l[j]? = some p := ⟨l[j]'(by omega), List.getElem?_eq_getElem _⟩
      refine Ar.idx_ hA (x := pt px py) (by simp [hes, hp, P2.pv]) ?_
      cbv
      have bp := hp
      obtain ⟨c, hc⟩ : ∃ c, c = sortF (l.take i.toNat) := ⟨_, rfl⟩
      have hcl : c.length ≤ i.toNat := by rw [hc]; exact Nat.le_trans (sortF_len _) (by simp; omega)
      have hnext : sortF (l.take (i.toNat + 1)) = insP ⟨px, py⟩ c := by rw [hc, ← hj]; exact sortF_next hp
      rw [← hc] at h3
      have hrl : r.length = c.length := by rw [h3]; simp
      have hrg : ∀ (k : Nat) (a b : Int), c[k]? = some ⟨a, b⟩ → r[k]? = some (pt a b) := fun k a b hk => by rw [h3, List.getElem?_map, hk]; rfl
      have hins := insP_at (l := c) (p := ⟨px, py⟩)
      refine Ar.loop_ hA (α := Int) (fun k => c.length - k.toNat) (fun k => 0 ≤ k ∧ k.toNat ≤ c.length ∧ ∀ q, q < k.toNat → ∃ a, c[q]? = some a ∧ lexLess a ⟨px, py⟩ = true) 56 (fun k => [(0, .pv (.sl es) []), (3, .own 3 none), (5, .ref 5 0), (6, .pv (i64 k) []), (8, .pv (.sl es) []), (9, .pv (i64 n) []), (10, .pv (i64 i) [])]) (fun _ => [(5, some (.cell [.pv (i64 px) [], .pv (i64 py) []])), (3, some (.row r 2 .free false))]) 0 (by refine ⟨?_, ⟨?_, ?_, ?_, ?_, ?_, ?_, ?_, trivial⟩, ?_, ?_, trivial⟩ <;> cbv) ⟨by omega, by simp, fun q hq => absurd hq (by simp)⟩ ?_
      intro k s f ⟨k1, k2, k3⟩
      have done : ∀ (a : Option P2), c[k.toNat]? = a → (a = none ∨ ∃ x, a = some x ∧ lexLess x ⟨px, py⟩ = false) → insP ⟨px, py⟩ c = if a = some ⟨px, py⟩ then c else c.take k.toNat ++ [⟨px, py⟩] ++ c.drop k.toNat := fun a ha hx => by
        rw [← ha]; exact hins _ k2 k3 (by rw [ha]; exact hx)
      cbv
      refine Ar.len_ hA (fun m hm hm' => ?_)
      cbv
      refine Ar.lss_ hA (fun g => ?_) (fun g => ?_)
      · obtain ⟨⟨qx, qy⟩, hq⟩ : ∃ p, c[k.toNat]? = some p := ⟨c[k.toNat]'(by omega), List.getElem?_eq_getElem _⟩
        have hrq := hrg _ _ _ hq
        cbv
        refine Ar.nn_ hA (by omega) ?_
        cbv
        refine Ar.toN_ hA (fun j2 hj2 => ?_)
        cbv
        refine Ar.idx_ hA (x := pt qx qy) (by rw [hj2]; exact hrq) ?_
        cbv
        refine Ar.idx_ hA (x := pt qx qy) (by rw [hj2]; exact hrq) ?_
        cbv
        refine Ar.callT hA c_spec_l10Less d_spec_l10Less rfl (fun hl => ?_) (fun hl => ?_)
        · cbv
          refine Ar.add_ hA (by omega) (fun k' hk' => ?_)
          cbv
          refine ⟨k', (by show c.length - k'.toNat < c.length - k.toNat; omega), ⟨by omega, by omega, fun q hq2 => ?_⟩, (by refine ⟨?_, ⟨?_, ?_, ?_, ?_, ?_, ?_, ?_, trivial⟩, ?_, ?_, trivial⟩ <;> cbv)⟩
          by_cases e : q = k.toNat
          · exact ⟨_, by rw [e]; exact hq, hl⟩
          · exact k3 q (by omega)
        · have done := done _ hq (.inr ⟨_, rfl, hl⟩)
          cbv
          refine Ar.len_ hA (fun m2 hm2 hm2' => ?_)
          obtain rfl : m = m2 := by omega
          cbv
          refine Ar.lss_ hA (fun _ => ?_) (fun hh => absurd g (by omega))
          cbv
          refine Ar.nn_ hA (by omega) ?_
          cbv
          refine Ar.toN_ hA (fun j3 hj3 => ?_)
          cbv
          refine Ar.idx_ hA (x := pt qx qy) (by rw [hj3]; exact hrq) ?_
          cbv
          refine Ar.idx_ hA (x := pt qx qy) (by rw [hj3]; exact hrq) ?_
          cbv
          refine Ar.eqPt_ hA (fun he => ?_) (fun he => ?_)
          · rw [if_pos (by rw [he.1, he.2])] at done
            cbv
            refine Ar.add_ hA (by omega) (fun i' hi' => ?_)
            cbv
            refine ⟨(true, i', r), (by show (n - i').toNat < (n - i).toNat; omega), ⟨by omega, by omega, ?_⟩, (by refine ⟨?_, ⟨?_, ?_, ?_, ?_, ?_, trivial⟩, ?_, trivial⟩ <;> cbv)⟩
            rw [show i'.toNat = i.toNat + 1 by omega, hnext, done]; exact h3
          · rw [if_neg (fun e => he ⟨congrArg P2.x (Option.some.inj e), congrArg P2.y (Option.some.inj e)⟩)] at done
            cbv
            repeat' (first
              | (refine Ar.nn_ hA (by omega) ?_; cbv)
              | (refine Ar.toN_ hA (fun j4 hj4 => ?_); cbv)
              | (refine Ar.lenN_ hA (fun j5 hj5 => ?_); cbv)
              | (refine Ar.rng_ hA (by omega) ?_; cbv)
              | (refine Ar.subN_ hA (fun j6 hj6 => ?_); cbv)
              | (refine Ar.wid_ hA (wide_pts h3 _) ?_; cbv)
              | (refine Ar.slN_ hA (fun r1 hr1 => ?_); have hr1l : r1.length ≤ 20 := (by rw [hr1]; simp only [List.length_take, List.length_drop]; omega); cbv)
              | (refine Ar.sl_ hA (fun r1 hr1 => ?_); have hr1l : r1.length ≤ 20 := (by rw [hr1]; simp only [List.length_take, List.length_drop]; omega); cbv)
              | (refine Ar.wid_ hA (wide_sub h3 (by assumption) _) ?_; cbv)
              | (refine Ar.app_ hA (fun r2 hr2 => ?_); have hr2l : r2.length ≤ 20 := (by rw [hr2, List.length_append]; first | omega | (simp only [List.length_nil]; omega) | (simp only [List.length_singleton]; omega)); cbv)
              | (refine Ar.app_ hA (fun r2 hr2 => ?_); have hr2l : r2.length ≤ 40 := (by rw [hr2, List.length_append]; first | omega | (simp only [List.length_nil]; omega) | (simp only [List.length_singleton]; omega)); cbv)
              | (refine Ar.app_ hA (fun r2 hr2 => ?_); have hr2l : r2.length ≤ 60 := (by rw [hr2, List.length_append]; first | omega | (simp only [List.length_nil]; omega) | (simp only [List.length_singleton]; omega)); cbv)
              | (refine Ar.fitsL_ hA (by omega) ?_; cbv))
            refine Ar.add_ hA (by omega) (fun i' hi' => ?_)
            cbv
            rename_i a5 ha5 a4 ha4 a6 ha6 s1 hs1 hs1l s2 hs2 hs2l s3 hs3 hs3l
            refine ⟨(false, i', r2), (by show (n - i').toNat < (n - i).toNat; omega), ⟨by omega, by omega, ?_⟩, (by refine ⟨?_, ⟨?_, ?_, ?_, ?_, ?_, trivial⟩, ?_, trivial⟩ <;> cbv)⟩
            rw [show i'.toNat = i.toNat + 1 by omega, hnext, done, hr2, hs3, hs2, hs1, hr1, show a6 = k.toNat by omega, show j4 = k.toNat by omega, List.take_of_length_le (l := List.drop k.toNat r) (by simp; omega), h3]
            simp [List.map_take, List.map_drop, P2.pv]
      · have done := done none (List.getElem?_eq_none (by omega)) (.inl rfl)
        rw [if_neg (by simp)] at done
        cbv
        refine Ar.len_ hA (fun m2 hm2 hm2' => ?_)
        obtain rfl : m = m2 := by omega
        cbv
        refine Ar.lss_ hA (fun hh => absurd hh (by omega)) (fun _ => ?_)
        cbv
        repeat' (first
          | (refine Ar.nn_ hA (by omega) ?_; cbv)
          | (refine Ar.toN_ hA (fun j4 hj4 => ?_); cbv)
          | (refine Ar.lenN_ hA (fun j5 hj5 => ?_); cbv)
          | (refine Ar.rng_ hA (by omega) ?_; cbv)
          | (refine Ar.subN_ hA (fun j6 hj6 => ?_); cbv)
          | (refine Ar.wid_ hA (wide_pts h3 _) ?_; cbv)
          | (refine Ar.slN_ hA (fun r1 hr1 => ?_); have hr1l : r1.length ≤ 20 := (by rw [hr1]; simp only [List.length_take, List.length_drop]; omega); cbv)
          | (refine Ar.sl_ hA (fun r1 hr1 => ?_); have hr1l : r1.length ≤ 20 := (by rw [hr1]; simp only [List.length_take, List.length_drop]; omega); cbv)
          | (refine Ar.wid_ hA (wide_sub h3 (by assumption) _) ?_; cbv)
          | (refine Ar.app_ hA (fun r2 hr2 => ?_); have hr2l : r2.length ≤ 20 := (by rw [hr2, List.length_append]; first | omega | (simp only [List.length_nil]; omega) | (simp only [List.length_singleton]; omega)); cbv)
          | (refine Ar.app_ hA (fun r2 hr2 => ?_); have hr2l : r2.length ≤ 40 := (by rw [hr2, List.length_append]; first | omega | (simp only [List.length_nil]; omega) | (simp only [List.length_singleton]; omega)); cbv)
          | (refine Ar.app_ hA (fun r2 hr2 => ?_); have hr2l : r2.length ≤ 60 := (by rw [hr2, List.length_append]; first | omega | (simp only [List.length_nil]; omega) | (simp only [List.length_singleton]; omega)); cbv)
          | (refine Ar.fitsL_ hA (by omega) ?_; cbv))
        refine Ar.add_ hA (by omega) (fun i' hi' => ?_)
        cbv
        rename_i a5 ha5 a4 ha4 a6 ha6 s1 hs1 hs1l s2 hs2 hs2l s3 hs3 hs3l
        refine ⟨(false, i', r2), (by show (n - i').toNat < (n - i).toNat; omega), ⟨by omega, by omega, ?_⟩, (by refine ⟨?_, ⟨?_, ?_, ?_, ?_, ?_, trivial⟩, ?_, trivial⟩ <;> cbv)⟩
        rw [show i'.toNat = i.toNat + 1 by omega, hnext, done, hr2, hs3, hs2, hs1, hr1, show a6 = k.toNat by omega, show j4 = k.toNat by omega, List.take_of_length_le (l := List.drop k.toNat r) (by simp; omega), h3]
        simp [List.map_take, List.map_drop, P2.pv]
    · rw [show i.toNat = l.length by omega, List.take_of_length_le (Nat.le_refl _)] at h3
      cbv
      exact hK _ _ (by rw [h3]) rfl

  · cbv
    refine Ar.lss_ hA (fun h => ?_) (fun h => ?_)
    · cbv
      refine Ar.nn_ hA (by omega) ?_
      cbv
      refine Ar.toN_ hA (fun j hj => ?_)
      cbv
      obtain ⟨⟨px, py⟩, hp⟩ : ∃ p, l[j]? = some p := ⟨l[j]'(by omega), List.getElem?_eq_getElem _⟩
      refine Ar.idx_ hA (x := pt px py) (by simp [hes, hp, P2.pv]) ?_
      cbv
      have bp := hp
      obtain ⟨c, hc⟩ : ∃ c, c = sortF (l.take i.toNat) := ⟨_, rfl⟩
      have hcl : c.length ≤ i.toNat := by rw [hc]; exact Nat.le_trans (sortF_len _) (by simp; omega)
      have hnext : sortF (l.take (i.toNat + 1)) = insP ⟨px, py⟩ c := by rw [hc, ← hj]; exact sortF_next hp
      rw [← hc] at h3
      have hrl : r.length = c.length := by rw [h3]; simp
      have hrg : ∀ (k : Nat) (a b : Int), c[k]? = some ⟨a, b⟩ → r[k]? = some (pt a b) := fun k a b hk => by rw [h3, List.getElem?_map, hk]; rfl
      have hins := insP_at (l := c) (p := ⟨px, py⟩)
      refine Ar.loop_ hA (α := Int) (fun k => c.length - k.toNat) (fun k => 0 ≤ k ∧ k.toNat ≤ c.length ∧ ∀ q, q < k.toNat → ∃ a, c[q]? = some a ∧ lexLess a ⟨px, py⟩ = true) 56 (fun k => [(0, .pv (.sl es) []), (3, .own 40 none), (5, .ref 5 0), (6, .pv (i64 k) []), (8, .pv (.sl es) []), (9, .pv (i64 n) []), (10, .pv (i64 i) [])]) (fun _ => [(5, some (.cell [.pv (i64 px) [], .pv (i64 py) []])), (40, some (.row r 2 .free false))]) 0 (by refine ⟨?_, ⟨?_, ?_, ?_, ?_, ?_, ?_, ?_, trivial⟩, ?_, ?_, trivial⟩ <;> cbv) ⟨by omega, by simp, fun q hq => absurd hq (by simp)⟩ ?_
      intro k s f ⟨k1, k2, k3⟩
      have done : ∀ (a : Option P2), c[k.toNat]? = a → (a = none ∨ ∃ x, a = some x ∧ lexLess x ⟨px, py⟩ = false) → insP ⟨px, py⟩ c = if a = some ⟨px, py⟩ then c else c.take k.toNat ++ [⟨px, py⟩] ++ c.drop k.toNat := fun a ha hx => by
        rw [← ha]; exact hins _ k2 k3 (by rw [ha]; exact hx)
      cbv
      refine Ar.len_ hA (fun m hm hm' => ?_)
      cbv
      refine Ar.lss_ hA (fun g => ?_) (fun g => ?_)
      · obtain ⟨⟨qx, qy⟩, hq⟩ : ∃ p, c[k.toNat]? = some p := ⟨c[k.toNat]'(by omega), List.getElem?_eq_getElem _⟩
        have hrq := hrg _ _ _ hq
        cbv
        refine Ar.nn_ hA (by omega) ?_
        cbv
        refine Ar.toN_ hA (fun j2 hj2 => ?_)
        cbv
        refine Ar.idx_ hA (x := pt qx qy) (by rw [hj2]; exact hrq) ?_
        cbv
        refine Ar.idx_ hA (x := pt qx qy) (by rw [hj2]; exact hrq) ?_
        cbv
        refine Ar.callT hA c_spec_l10Less d_spec_l10Less rfl (fun hl => ?_) (fun hl => ?_)
        · cbv
          refine Ar.add_ hA (by omega) (fun k' hk' => ?_)
          cbv
          refine ⟨k', (by show c.length - k'.toNat < c.length - k.toNat; omega), ⟨by omega, by omega, fun q hq2 => ?_⟩, (by refine ⟨?_, ⟨?_, ?_, ?_, ?_, ?_, ?_, ?_, trivial⟩, ?_, ?_, trivial⟩ <;> cbv)⟩
          by_cases e : q = k.toNat
          · exact ⟨_, by rw [e]; exact hq, hl⟩
          · exact k3 q (by omega)
        · have done := done _ hq (.inr ⟨_, rfl, hl⟩)
          cbv
          refine Ar.len_ hA (fun m2 hm2 hm2' => ?_)
          obtain rfl : m = m2 := by omega
          cbv
          refine Ar.lss_ hA (fun _ => ?_) (fun hh => absurd g (by omega))
          cbv
          refine Ar.nn_ hA (by omega) ?_
          cbv
          refine Ar.toN_ hA (fun j3 hj3 => ?_)
          cbv
          refine Ar.idx_ hA (x := pt qx qy) (by rw [hj3]; exact hrq) ?_
          cbv
          refine Ar.idx_ hA (x := pt qx qy) (by rw [hj3]; exact hrq) ?_
          cbv
          refine Ar.eqPt_ hA (fun he => ?_) (fun he => ?_)
          · rw [if_pos (by rw [he.1, he.2])] at done
            cbv
            refine Ar.add_ hA (by omega) (fun i' hi' => ?_)
            cbv
            refine ⟨(false, i', r), (by show (n - i').toNat < (n - i).toNat; omega), ⟨by omega, by omega, ?_⟩, (by refine ⟨?_, ⟨?_, ?_, ?_, ?_, ?_, trivial⟩, ?_, trivial⟩ <;> cbv)⟩
            rw [show i'.toNat = i.toNat + 1 by omega, hnext, done]; exact h3
          · rw [if_neg (fun e => he ⟨congrArg P2.x (Option.some.inj e), congrArg P2.y (Option.some.inj e)⟩)] at done
            cbv
            repeat' (first
              | (refine Ar.nn_ hA (by omega) ?_; cbv)
              | (refine Ar.toN_ hA (fun j4 hj4 => ?_); cbv)
              | (refine Ar.lenN_ hA (fun j5 hj5 => ?_); cbv)
              | (refine Ar.rng_ hA (by omega) ?_; cbv)
              | (refine Ar.subN_ hA (fun j6 hj6 => ?_); cbv)
              | (refine Ar.wid_ hA (wide_pts h3 _) ?_; cbv)
              | (refine Ar.slN_ hA (fun r1 hr1 => ?_); have hr1l : r1.length ≤ 20 := (by rw [hr1]; simp only [List.length_take, List.length_drop]; omega); cbv)
              | (refine Ar.sl_ hA (fun r1 hr1 => ?_); have hr1l : r1.length ≤ 20 := (by rw [hr1]; simp only [List.length_take, List.length_drop]; omega); cbv)
              | (refine Ar.wid_ hA (wide_sub h3 (by assumption) _) ?_; cbv)
              | (refine Ar.app_ hA (fun r2 hr2 => ?_); have hr2l : r2.length ≤ 20 := (by rw [hr2, List.length_append]; first | omega | (simp only [List.length_nil]; omega) | (simp only [List.length_singleton]; omega)); cbv)
              | (refine Ar.app_ hA (fun r2 hr2 => ?_); have hr2l : r2.length ≤ 40 := (by rw [hr2, List.length_append]; first | omega | (simp only [List.length_nil]; omega) | (simp only [List.length_singleton]; omega)); cbv)
              | (refine Ar.app_ hA (fun r2 hr2 => ?_); have hr2l : r2.length ≤ 60 := (by rw [hr2, List.length_append]; first | omega | (simp only [List.length_nil]; omega) | (simp only [List.length_singleton]; omega)); cbv)
              | (refine Ar.fitsL_ hA (by omega) ?_; cbv))
            refine Ar.add_ hA (by omega) (fun i' hi' => ?_)
            cbv
            rename_i a5 ha5 a4 ha4 a6 ha6 s1 hs1 hs1l s2 hs2 hs2l s3 hs3 hs3l
            refine ⟨(false, i', r2), (by show (n - i').toNat < (n - i).toNat; omega), ⟨by omega, by omega, ?_⟩, (by refine ⟨?_, ⟨?_, ?_, ?_, ?_, ?_, trivial⟩, ?_, trivial⟩ <;> cbv)⟩
            rw [show i'.toNat = i.toNat + 1 by omega, hnext, done, hr2, hs3, hs2, hs1, hr1, show a6 = k.toNat by omega, show j4 = k.toNat by omega, List.take_of_length_le (l := List.drop k.toNat r) (by simp; omega), h3]
            simp [List.map_take, List.map_drop, P2.pv]
      · have done := done none (List.getElem?_eq_none (by omega)) (.inl rfl)
        rw [if_neg (by simp)] at done
        cbv
        refine Ar.len_ hA (fun m2 hm2 hm2' => ?_)
        obtain rfl : m = m2 := by omega
        cbv
        refine Ar.lss_ hA (fun hh => absurd hh (by omega)) (fun _ => ?_)
        cbv
        repeat' (first
          | (refine Ar.nn_ hA (by omega) ?_; cbv)
          | (refine Ar.toN_ hA (fun j4 hj4 => ?_); cbv)
          | (refine Ar.lenN_ hA (fun j5 hj5 => ?_); cbv)
          | (refine Ar.rng_ hA (by omega) ?_; cbv)
          | (refine Ar.subN_ hA (fun j6 hj6 => ?_); cbv)
          | (refine Ar.wid_ hA (wide_pts h3 _) ?_; cbv)
          | (refine Ar.slN_ hA (fun r1 hr1 => ?_); have hr1l : r1.length ≤ 20 := (by rw [hr1]; simp only [List.length_take, List.length_drop]; omega); cbv)
          | (refine Ar.sl_ hA (fun r1 hr1 => ?_); have hr1l : r1.length ≤ 20 := (by rw [hr1]; simp only [List.length_take, List.length_drop]; omega); cbv)
          | (refine Ar.wid_ hA (wide_sub h3 (by assumption) _) ?_; cbv)
          | (refine Ar.app_ hA (fun r2 hr2 => ?_); have hr2l : r2.length ≤ 20 := (by rw [hr2, List.length_append]; first | omega | (simp only [List.length_nil]; omega) | (simp only [List.length_singleton]; omega)); cbv)
          | (refine Ar.app_ hA (fun r2 hr2 => ?_); have hr2l : r2.length ≤ 40 := (by rw [hr2, List.length_append]; first | omega | (simp only [List.length_nil]; omega) | (simp only [List.length_singleton]; omega)); cbv)
          | (refine Ar.app_ hA (fun r2 hr2 => ?_); have hr2l : r2.length ≤ 60 := (by rw [hr2, List.length_append]; first | omega | (simp only [List.length_nil]; omega) | (simp only [List.length_singleton]; omega)); cbv)
          | (refine Ar.fitsL_ hA (by omega) ?_; cbv))
        refine Ar.add_ hA (by omega) (fun i' hi' => ?_)
        cbv
        rename_i a5 ha5 a4 ha4 a6 ha6 s1 hs1 hs1l s2 hs2 hs2l s3 hs3 hs3l
        refine ⟨(false, i', r2), (by show (n - i').toNat < (n - i).toNat; omega), ⟨by omega, by omega, ?_⟩, (by refine ⟨?_, ⟨?_, ?_, ?_, ?_, ?_, trivial⟩, ?_, trivial⟩ <;> cbv)⟩
        rw [show i'.toNat = i.toNat + 1 by omega, hnext, done, hr2, hs3, hs2, hs1, hr1, show a6 = k.toNat by omega, show j4 = k.toNat by omega, List.take_of_length_le (l := List.drop k.toNat r) (by simp; omega), h3]
        simp [List.map_take, List.map_drop, P2.pv]
    · rw [show i.toNat = l.length by omega, List.take_of_length_le (Nat.le_refl _)] at h3
      cbv
      exact hK _ _ (by rw [h3]) rfl

theorem c_impl_sorted : Callable Try.prog 71 := ⟨_, Try.func71, rfl, by kernel_rfl⟩
theorem d_impl_sorted {es : List PV} {l : List P2} (hes : es = l.map P2.pv) (hb : l.length ≤ 1048576) : Does Try.prog 71 [.sl es] (.row ((sortF l).map P2.pv) 2 .free) [] := by
  refine does_of hT hM Try.func71 rfl (D := []) (by kernel_rfl) rfl rfl rfl (fun A K hA hK => ?_)
  have hlen : es.length = l.length := by simp [hes]
  obtain ⟨S, hS⟩ : ∃ S, S = sortP l := ⟨_, rfl⟩
  have hSl : S.length = l.length := by rw [hS, sortP_len]
  have dS := d_sortFunc hes hb
  rw [← hS] at dS
  have dC := d_slices_Compact_impl_Pt_impl_Pt (l := S) rfl (by omega)
  have hF : compF S = sortF l := by rw [hS, sort_same]
  rw [hF] at dC
  obtain ⟨T, hT'⟩ : ∃ T, T = (compO S).map P2.pv := ⟨_, rfl⟩
  have hTt : T.take (sortF l).length = (sortF l).map P2.pv := by
    rw [hT', ← List.map_take]
    unfold compO
    rw [hF, List.take_append_of_le_length (Nat.le_refl _), List.take_of_length_le (Nat.le_refl _)]
  rw [← hT'] at dC
  generalize S.map P2.pv = U at dS dC
  generalize (sortF l).map P2.pv = R at hK hTt
  generalize (sortF l).length = q at dC hTt
  clear hT' hF hS hSl
  cbv
  refine Ar.call_ hA c_slices_Clone_impl_Pt_impl_Pt (d_slices_Clone_impl_Pt_impl_Pt hes hb) rfl ?_
  cbv
  refine Ar.call_ hA c_sortFunc dS rfl ?_
  cbv
  refine Ar.call_ hA c_slices_Compact_impl_Pt_impl_Pt dC rfl ?_
  cbv
  exact hK _ _ (by subst hA; show RS.row ((T.drop 0).take q) 2 .free = _; rw [List.drop_zero, hTt]) rfl

end Go.VAI
