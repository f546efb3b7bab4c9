/- slices.Grow, slices.Concat, slices.Index on points; IsConvex, HasPt. -/
import Derived.Test.YtidbgfknaopkkaaZ5
namespace Go.VAI
open Go.Proofs
set_option maxRecDepth 100000
set_option maxHeartbeats 8000000

abbrev nilV : PV := .val (.slice none 0 0)

theorem c_slices_Grow_impl_Pt_impl_Pt : Callable Try.prog 122 := ⟨_, Try.func122, rfl, by kernel_rfl⟩
theorem d_slices_Grow_impl_Pt_impl_Pt {n : Int} (h : 0 < n ∧ n ≤ 1000000) : Does Try.prog 122 [nilV, i64 n] (.row [] 2 .free) [] := by
  refine does_of hT hM Try.func122 rfl (D := []) (by kernel_rfl) rfl rfl rfl (fun A K hA hK => ?_)
  cbv
  refine Ar.lss_ hA (fun g => absurd g (by omega)) (fun _ => ?_)
  cbv
  refine Ar.ofN_ hA (fun z hz hz' => ?_)
  cbv
  refine Ar.sub_ hA (by omega) (fun y hy => ?_)
  cbv
  refine Ar.sub_ hA (by omega) (fun x hx => ?_)
  cbv
  refine Ar.gtr_ hA (fun g => ?_) (fun g => absurd h.1 (by omega))
  cbv
  refine Ar.nn_ hA (by omega) ?_
  cbv
  refine Ar.toN_ hA (fun j hj => ?_)
  cbv
  repeat' (first
    | (refine Ar.rng_ hA (by omega) ?_; cbv)
    | (refine Ar.fits_ hA (by omega) ?_; cbv)
    | (refine Ar.rep_ hA (fun r hr => ?_); cbv)
    | (refine Ar.ofN_ hA (fun z1 hz1 hz1' => ?_); cbv)
    | (refine Ar.lenN_ hA (fun n5 hn5 => ?_); cbv)
    | (refine Ar.nn_ hA (by omega) ?_; cbv)
    | (refine Ar.toN_ hA (fun j5 hj5 => ?_); cbv)
    | (refine Ar.subN_ hA (fun m' hm' => ?_); cbv))
  exact hK _ _ (by subst hA; show RS.row ((r.drop 0).take m') 2 .free = _; rw [show m' = 0 by omega, List.take_zero]) rfl

/-- p stands first at q. -/
def FirstAt (l : List P2) (p : P2) (q : Nat) : Prop := l[q]? = some p ∧ ∀ k, k < q → l[k]? ≠ some p
theorem first_ex {l : List P2} {p : P2} (h : p ∈ l) : ∃ q, FirstAt l p q := by
  induction l with
  | nil => simp at h
  | cons a l ih =>
    by_cases e : a = p
    · exact ⟨0, by simp [e], fun k hk => by omega⟩
    · rcases List.mem_cons.1 h with h | h
      · exact absurd h.symm e
      · obtain ⟨q, h1, h2⟩ := ih h
        refine ⟨q + 1, by simpa using h1, fun k hk => ?_⟩
        cases k with
        | zero => simpa using e
        | succ k => simpa using h2 k (by omega)

theorem c_slices_Index_impl_Pt_impl_Pt : Callable Try.prog 110 := ⟨_, Try.func110, rfl, by kernel_rfl⟩
theorem d_slices_Index_impl_Pt_impl_Pt {es : List PV} {l : List P2} {px py : Int} {q : Int} (hes : es = l.map P2.pv) (hb : l.length ≤ 1048576) (hq0 : 0 ≤ q) (hq : FirstAt l ⟨px, py⟩ q.toNat) : Does Try.prog 110 [.sl es, pt px py] (.pv (i64 q)) [] := by
  refine does_of hT hM Try.func110 rfl (D := []) (by kernel_rfl) rfl rfl rfl (fun A K hA hK => ?_)
  have hlen : es.length = l.length := by simp [hes]
  obtain ⟨hq1, hq2⟩ := hq
  have hlt := (List.getElem?_eq_some_iff.1 hq1).1
  cbv
  refine Ar.len_ hA (fun n hn hn' => ?_)
  cbv
  refine Ar.loop_ hA (α := Int) (fun i => (n - i).toNat) (fun i => 0 ≤ i ∧ i ≤ q) 19 (fun i => [(0, .pv (.sl es) []), (3, .ref 3 0), (7, .pv (i64 n) []), (8, .pv (i64 i) [])]) (fun _ => [(3, some (.cell [.pv (i64 px) [], .pv (i64 py) []]))]) 0 (by refine ⟨?_, ⟨?_, ?_, ?_, ?_, trivial⟩, ?_, trivial⟩ <;> cbv) ⟨by omega, by omega⟩ ?_
  intro i s f ⟨h1, h2⟩
  cbv
  refine Ar.lss_ hA (fun h => ?_) (fun h => absurd h (by omega))
  obtain ⟨⟨ux, uy⟩, hu⟩ : ∃ p, l[i.toNat]? = some p := ⟨l[i.toNat]'(by omega), List.getElem?_eq_getElem _⟩
  have eu : es[i.toNat]? = some (pt ux uy) := by rw [hes, List.getElem?_map, hu]; rfl
  cbv
  refine Ar.nn_ hA (by omega) ?_
  cbv
  refine Ar.toN_ hA (fun j hj => ?_)
  cbv
  refine Ar.idx_ hA (x := pt ux uy) (by rw [hj]; exact eu) ?_
  cbv
  repeat' (first
    | apply And.intro
    | (refine Ar.idx_ hA (x := pt ux uy) (by rw [hj]; exact eu) ?_; cbv))
  all_goals
    refine Ar.eqPt_ hA (fun he => ?_) (fun he => ?_)
    · cbv
      have hiq : i = q := by
        rcases Int.lt_or_eq_of_le h2 with e | e
        · exact absurd (by rw [hu, he.1, he.2]) (hq2 i.toNat (by omega))
        · exact e
      exact hK _ _ (by rw [hiq]) rfl
    · cbv
      refine Ar.add_ hA (by omega) (fun i' hi' => ?_)
      cbv
      have hiq : i ≠ q := fun e => he (by rw [e, hq1] at hu; cases hu; exact ⟨rfl, rfl⟩)
      exact ⟨i', (by show (n - i').toNat < (n - i).toNat; omega), ⟨by omega, by omega⟩, (by refine ⟨?_, ⟨?_, ?_, ?_, ?_, trivial⟩, ?_, trivial⟩ <;> cbv)⟩

theorem c_spec_l10Least : Callable Try.prog 109 := ⟨_, Try.func109, rfl, by kernel_rfl⟩
theorem d_spec_l10Least {es : List PV} {l : List P2} {p : P2} {q : Int} (hes : es = l.map P2.pv) (hb : l.length ≤ 1048576) (hq0 : 0 ≤ q) (hq : FirstAt l p q.toNat) (hmin : ∀ x ∈ l, lexLess x p = false) : Does Try.prog 109 [.sl es] (.pv (i64 q)) [] := by
  refine does_of hT hM Try.func109 rfl (D := []) (by kernel_rfl) rfl rfl rfl (fun A K hA hK => ?_)
  have hlen : es.length = l.length := by simp [hes]
  obtain ⟨hq1, hq2⟩ := hq
  have hlt := (List.getElem?_eq_some_iff.1 hq1).1
  cbv
  refine Ar.len_ hA (fun n hn hn' => ?_)
  cbv
  refine Ar.loop_ hA (α := Int × Int) (fun x => (n - x.1).toNat) (fun (i, k) => 0 ≤ i ∧ i ≤ n ∧ 0 ≤ k ∧ k < n ∧ (k < i ∨ k = 0) ∧ ∀ m, l[k.toNat]? = some m → (∀ j x, j < i.toNat → l[j]? = some x → lexLess x m = false) ∧ (∀ j x, j < k.toNat → l[j]? = some x → lexLess m x = true)) 22 (fun (i, k) => [(0, .pv (.sl es) []), (3, .pv (i64 k) []), (6, .pv (.sl es) []), (7, .pv (i64 n) []), (8, .pv (i64 i) [])]) (fun _ => []) (0, 0) (by refine ⟨?_, ⟨?_, ?_, ?_, ?_, ?_, trivial⟩, trivial⟩ <;> cbv) ⟨by omega, by omega, by omega, by omega, by omega, fun m hm => ⟨fun j x hj => absurd hj (by simp), fun j x hj => absurd hj (by simp)⟩⟩ ?_
  intro ⟨i, k⟩ s f ⟨h1, h2, h3, h4, h5, h6⟩
  cbv
  refine Ar.lss_ hA (fun h => ?_) (fun h => ?_)
  · obtain ⟨⟨ux, uy⟩, hu⟩ : ∃ p, l[i.toNat]? = some p := ⟨l[i.toNat]'(by omega), List.getElem?_eq_getElem _⟩
    obtain ⟨⟨vx, vy⟩, hv⟩ : ∃ p, l[k.toNat]? = some p := ⟨l[k.toNat]'(by omega), List.getElem?_eq_getElem _⟩
    have eu : es[i.toNat]? = some (pt ux uy) := by rw [hes, List.getElem?_map, hu]; rfl
    have ev : es[k.toNat]? = some (pt vx vy) := by rw [hes, List.getElem?_map, hv]; rfl
    obtain ⟨k1, k2⟩ := h6 _ hv
    cbv
    repeat' (first
      | apply And.intro
      | (refine Ar.nn_ hA (by omega) ?_; cbv)
      | (refine Ar.toN_ hA (fun j hj => ?_); cbv)
      | (refine Ar.idx_ hA (x := pt ux uy) (by rw [show j = i.toNat by omega]; exact eu) ?_; cbv)
      | (refine Ar.idx_ hA (x := pt vx vy) (by rw [show j = k.toNat by omega]; exact ev) ?_; cbv))
    all_goals
      refine Ar.callT hA c_spec_l10Less d_spec_l10Less rfl (fun hl => ?_) (fun hl => ?_)
      · cbv
        refine Ar.add_ hA (by omega) (fun i' hi' => ?_)
        cbv
        refine ⟨(i', i), (by show (n - i').toNat < (n - i).toNat; omega), ⟨by omega, by omega, by omega, by omega, by omega, fun m hm => ?_⟩, (by refine ⟨?_, ⟨?_, ?_, ?_, ?_, ?_, trivial⟩, trivial⟩ <;> cbv)⟩
        rw [hu] at hm
        cases hm
        have hki : k.toNat ≤ i.toNat := by omega
        have hall : ∀ j x, j < i.toNat → l[j]? = some x → lexLess ⟨ux, uy⟩ x = true := fun j x hj hx => by
          have := k1 j x hj hx
          rw [lex_not] at this
          rw [lex_iff] at hl ⊢
          simp only at *
          omega
        refine ⟨fun j x hj hx => ?_, hall⟩
        by_cases e : j = i.toNat
        · subst e
          rw [hu] at hx
          cases hx
          rw [lex_not]; omega
        · have := hall j x (by omega) hx
          rw [lex_iff] at this
          rw [lex_not]
          simp only at *
          omega
      · cbv
        refine Ar.add_ hA (by omega) (fun i' hi' => ?_)
        cbv
        refine ⟨(i', k), (by show (n - i').toNat < (n - i).toNat; omega), ⟨by omega, by omega, by omega, by omega, by omega, fun m hm => ?_⟩, (by refine ⟨?_, ⟨?_, ?_, ?_, ?_, ?_, trivial⟩, trivial⟩ <;> cbv)⟩
        rw [hv] at hm
        cases hm
        refine ⟨fun j x hj hx => ?_, k2⟩
        by_cases e : j = i.toNat
        · subst e
          rw [hu] at hx
          cases hx
          exact hl
        · exact k1 j x (by omega) hx
  · obtain ⟨m, hm⟩ : ∃ p, l[k.toNat]? = some p := ⟨l[k.toNat]'(by omega), List.getElem?_eq_getElem _⟩
    obtain ⟨k1, k2⟩ := h6 _ hm
    have hmp : m = p := by
      have a1 := k1 q.toNat p (by omega) hq1
      have a2 := hmin m (List.mem_of_getElem? hm)
      rw [lex_not] at a1 a2
      exact P2.eq_of (by omega) (by omega)
    have hkq : k = q := by
      rcases Int.lt_trichotomy k q with e | e | e
      · exact absurd (by rw [hm, hmp]) (hq2 k.toNat (by omega))
      · exact e
      · have := k2 q.toNat p (by omega) hq1
        rw [hmp, lex_iff] at this
        omega
    cbv
    exact hK _ _ (by rw [hkq]) rfl

theorem popR_last {p a : P2} : ∀ {s : List P2}, s.getLast? = some a → (popR p s).getLast? = some a
  | [], h => by simp at h
  | [x], h => h
  | b :: c :: s, h => by
    rw [popR]
    split
    · exact popR_last (by rw [List.getLast?_cons_cons] at h; exact h)
    · exact h
theorem chainR_last : ∀ (l : List P2) {s : List P2} {a : P2}, s.getLast? = some a → (l.foldl (fun st p => p :: popR p st) s).getLast? = some a
  | [], _, _, h => h
  | p :: l, s, a, h => by
    have h1 := popR_last (p := p) h
    refine chainR_last l ?_
    show (p :: popR p s).getLast? = some a
    cases hs : popR p s with
    | nil => rw [hs] at h1; simp at h1
    | cons x t => rw [hs] at h1; rw [List.getLast?_cons_cons]; exact h1
theorem chainF_head (a : P2) (l : List P2) : (chainF (a :: l))[0]? = some a := by
  unfold chainF
  rw [← List.head?_eq_getElem?, List.head?_reverse]
  exact chainR_last l (by simp [popR])
theorem chainR_two : ∀ (l : List P2) {s : List P2}, 2 ≤ s.length ∨ (1 ≤ s.length ∧ 1 ≤ l.length) → 2 ≤ (l.foldl (fun st p => p :: popR p st) s).length
  | [], s, h => by simp at h; exact h
  | p :: l, s, h => by
    refine chainR_two l (.inl ?_)
    have : 1 ≤ (popR p s).length := by
      cases s with
      | nil => simp at h
      | cons x t =>
        cases hs : (x :: t).getLast? with
        | none => simp at hs
        | some a =>
          have := popR_last (p := p) hs
          cases hp : popR p (x :: t) with
          | nil => rw [hp] at this; simp at this
          | cons y u => simp
    simp; omega
theorem chainF_two (a b : P2) (l : List P2) : 2 ≤ (chainF (a :: b :: l)).length := by
  unfold chainF
  rw [List.length_reverse]
  exact chainR_two (b :: l) (.inr ⟨by simp, by simp⟩)
theorem hullS_head {a : P2} {l : List P2} : (hullS (a :: l))[0]? = some a := by
  unfold hullS
  split
  · rfl
  · rename_i h
    match l, h with
    | [], h => simp at h
    | b :: l, _ =>
      have h1 := chainF_head a (b :: l)
      have h2 := chainF_two a b l
      have h3 := sideF_len (a :: b :: l)
      rw [List.getElem?_append_left (by omega)]
      unfold sideF
      rw [List.getElem?_dropLast, if_pos (by omega)]
      exact h1

def fstI (p : P2) : List P2 → Nat
  | [] => 0
  | a :: l => if a = p then 0 else fstI p l + 1
theorem fstI_at {p : P2} : ∀ {l : List P2}, p ∈ l → FirstAt l p (fstI p l)
  | [], h => by simp at h
  | a :: l, h => by
    rw [fstI]
    split
    · rename_i e
      exact ⟨by simp [e], fun k hk => by omega⟩
    · rename_i e
      rcases List.mem_cons.1 h with h | h
      · exact absurd h.symm e
      · obtain ⟨h1, h2⟩ := fstI_at h
        refine ⟨by simpa using h1, fun k hk => ?_⟩
        cases k with
        | zero => simpa using e
        | succ k => simpa using h2 k (by omega)

def leastP (l : List P2) : P2 := (sortF l).headD ⟨0, 0⟩
theorem least_facts {l : List P2} (h : 0 < l.length) : leastP l ∈ l ∧ (∀ x ∈ l, lexLess x (leastP l) = false) ∧ (hullF l)[0]? = some (leastP l) := by
  have hp := sortF_pos h
  have hs := sortF_sorted l
  have hm := fun x => sortF_mem (l := l) (x := x)
  unfold leastP hullF
  cases he : sortF l with
  | nil => rw [he] at hp; simp at hp
  | cons a t =>
    rw [he] at hs hm
    refine ⟨(hm a).1 (by simp), fun x hx => ?_, hullS_head⟩
    rcases List.mem_cons.1 ((hm x).2 hx) with e | e
    · show lexLess x a = false
      rw [lex_not, e]; omega
    · have := (List.pairwise_cons.1 hs).1 x e
      show lexLess x a = false
      rw [lex_iff] at this
      rw [lex_not]; omega

def rotF (l : List P2) : List P2 := l.drop (fstI (leastP l) l) ++ l.take (fstI (leastP l) l)
def convF (l : List P2) : Bool := decide (hullF l = rotF l)

theorem c_slices_Concat_impl_Pt_impl_Pt : Callable Try.prog 111 := ⟨_, Try.func111, rfl, by kernel_rfl⟩
theorem d_slices_Concat_impl_Pt_impl_Pt {es fs : List PV} {l m : List P2} (hes : es = l.map P2.pv) (hfs : fs = m.map P2.pv) (hb : 0 < l.length + m.length ∧ l.length + m.length ≤ 1000) : Does Try.prog 111 [.sl [.sl es, .sl fs]] (.row (es ++ fs) 2 .free) [] := by
  refine does_of hT hM Try.func111 rfl (D := []) (by kernel_rfl) rfl rfl rfl (fun A K hA hK => ?_)
  have hlen : es.length = l.length := by simp [hes]
  have hlen2 : fs.length = m.length := by simp [hfs]
  obtain ⟨le, hle0, hle⟩ : ∃ a : Int, 0 ≤ a ∧ a.toNat = es.length := ⟨(es.length : Int), by omega, by omega⟩
  obtain ⟨lf, hlf0, hlf⟩ : ∃ a : Int, 0 ≤ a ∧ a.toNat = fs.length := ⟨(fs.length : Int), by omega, by omega⟩
  cbv
  refine Ar.len_ hA (fun n hn hn' => ?_)
  cbv
  have hn2 : n = 2 := by simp at hn'; omega
  subst hn2
  refine Ar.loop_ hA (α := Int × Int) (fun x => (2 - x.1).toNat) (fun (i, q) => 0 ≤ i ∧ i ≤ 2 ∧ (i = 0 → q = 0) ∧ (i = 1 → q = le) ∧ (i = 2 → q = le + lf)) 36 (fun (i, q) => [(0, .pv (.sl [.sl es, .sl fs]) []), (3, .pv (i64 q) []), (9, .pv (.sl [.sl es, .sl fs]) []), (10, .pv (i64 2) []), (11, .pv (i64 i) [])]) (fun _ => []) (0, 0) (by refine ⟨?_, ⟨?_, ?_, ?_, ?_, ?_, trivial⟩, trivial⟩ <;> cbv) ⟨by omega, by omega, by omega, by omega, by omega⟩ ?_
  intro ⟨i, q⟩ s f ⟨h1, h2, h3, h4, h5⟩
  cbv
  refine Ar.lss_ hA (fun h => ?_) (fun h => ?_)
  · rcases (show i = 0 ∨ i = 1 by omega) with rfl | rfl
    · cbv
      refine Ar.nn_ hA (by omega) ?_
      cbv
      refine Ar.toN_ hA (fun j hj => ?_)
      cbv
      refine Ar.idx_ hA (x := .sl es) (by rw [hj]; rfl) ?_
      cbv
      refine Ar.len_ hA (fun z hz hz' => ?_)
      cbv
      refine Ar.add_ hA (by omega) (fun q' hq' => ?_)
      cbv
      refine Ar.lss_ hA (fun g => absurd g (by omega)) (fun _ => ?_)
      cbv
      refine Ar.add_ hA (by omega) (fun i' hi' => ?_)
      cbv
      exact ⟨(i', q'), (by show (2 - i').toNat < (2 - (0 : Int)).toNat; omega), ⟨by omega, by omega, by omega, by omega, by omega⟩, (by refine ⟨?_, ⟨?_, ?_, ?_, ?_, ?_, trivial⟩, trivial⟩ <;> cbv)⟩
    · cbv
      refine Ar.nn_ hA (by omega) ?_
      cbv
      refine Ar.toN_ hA (fun j hj => ?_)
      cbv
      refine Ar.idx_ hA (x := .sl fs) (by rw [hj]; rfl) ?_
      cbv
      refine Ar.len_ hA (fun z hz hz' => ?_)
      cbv
      refine Ar.add_ hA (by omega) (fun q' hq' => ?_)
      cbv
      refine Ar.lss_ hA (fun g => absurd g (by omega)) (fun _ => ?_)
      cbv
      refine Ar.add_ hA (by omega) (fun i' hi' => ?_)
      cbv
      exact ⟨(i', q'), (by show (2 - i').toNat < (2 - (1 : Int)).toNat; omega), ⟨by omega, by omega, by omega, by omega, by omega⟩, (by refine ⟨?_, ⟨?_, ?_, ?_, ?_, ?_, trivial⟩, trivial⟩ <;> cbv)⟩
  · have hq := h5 (by omega)
    cbv
    refine Ar.call_ hA c_slices_Grow_impl_Pt_impl_Pt (d_slices_Grow_impl_Pt_impl_Pt (n := q) (by omega)) rfl ?_
    cbv
    refine Ar.len_ hA (fun n2 hn2 hn2' => ?_)
    have hn22 : n2 = 2 := by simp at hn2'; omega
    subst hn22
    cbv
    refine Ar.loop_ hA (α := Int × List PV) (fun x => (2 - x.1).toNat) (fun (i, r) => 0 ≤ i ∧ i ≤ 2 ∧ (i = 0 → r = []) ∧ (i = 1 → r = es) ∧ (i = 2 → r = es ++ fs)) 36 (fun (i, r) => [(6, .own 24 none), (25, .pv (.sl [.sl es, .sl fs]) []), (26, .pv (i64 2) []), (27, .pv (i64 i) [])]) (fun (i, r) => [(24, some (.row r 2 .free false))]) (0, []) (by refine ⟨?_, ⟨?_, ?_, ?_, ?_, trivial⟩, ?_, trivial⟩ <;> cbv) ⟨by omega, by omega, fun _ => rfl, by omega, by omega⟩ ?_
    intro ⟨i, r⟩ s f ⟨k1, k2, k3, k4, k5⟩
    cbv
    refine Ar.lss_ hA (fun h => ?_) (fun h => ?_)
    · rcases (show i = 0 ∨ i = 1 by omega) with rfl | rfl
      · have k3 := k3 rfl
        cbv
        refine Ar.nn_ hA (by omega) ?_
        cbv
        refine Ar.toN_ hA (fun j hj => ?_)
        cbv
        refine Ar.idx_ hA (x := .sl es) (by rw [hj]; rfl) ?_
        cbv
        refine Ar.wid_ hA (wide_pts hes _) ?_
        cbv
        refine Ar.app_ hA (fun r' hr' => ?_)
        have hr2 : r' = es := by rw [hr', k3, List.nil_append]
        cbv
        refine Ar.fitsL_ hA (by rw [hr2]; omega) ?_
        cbv
        refine Ar.add_ hA (by omega) (fun i' hi' => ?_)
        cbv
        exact ⟨(i', r'), (by show (2 - i').toNat < (2 - (0 : Int)).toNat; omega), ⟨by omega, by omega, by omega, fun _ => hr2, by omega⟩, (by refine ⟨?_, ⟨?_, ?_, ?_, ?_, trivial⟩, ?_, trivial⟩ <;> cbv)⟩
      · have k4 := k4 rfl
        cbv
        refine Ar.nn_ hA (by omega) ?_
        cbv
        refine Ar.toN_ hA (fun j hj => ?_)
        cbv
        refine Ar.idx_ hA (x := .sl fs) (by rw [hj]; rfl) ?_
        cbv
        refine Ar.wid_ hA (wide_pts hfs _) ?_
        cbv
        refine Ar.app_ hA (fun r' hr' => ?_)
        have hr2 : r' = es ++ fs := by rw [hr', k4]
        cbv
        refine Ar.fitsL_ hA (by rw [hr2, List.length_append]; omega) ?_
        cbv
        refine Ar.add_ hA (by omega) (fun i' hi' => ?_)
        cbv
        exact ⟨(i', r'), (by show (2 - i').toNat < (2 - (1 : Int)).toNat; omega), ⟨by omega, by omega, by omega, by omega, fun _ => hr2⟩, (by refine ⟨?_, ⟨?_, ?_, ?_, ?_, trivial⟩, ?_, trivial⟩ <;> cbv)⟩
    · have k5 := k5 (by omega)
      cbv
      exact hK _ _ (by rw [k5]) rfl

theorem c_spec_l10Convex : Callable Try.prog 79 := ⟨_, Try.func79, rfl, by kernel_rfl⟩
theorem d_spec_l10Convex {es : List PV} {l : List P2} (hes : es = l.map P2.pv) (h3 : 3 ≤ l.length) (hb : l.length ≤ 12) (hok : ∀ p ∈ l, p.ok = true) : Does Try.prog 79 [.sl es] (.pv (bl (convF l))) [] := by
  refine does_of hT hM Try.func79 rfl (D := [(2, [0, 1, 2, 3, 4, 5])]) (by kernel_rfl) rfl rfl rfl (fun A K hA hK => ?_)
  have hlen : es.length = l.length := by simp [hes]
  obtain ⟨hm, hmin, _⟩ := least_facts (l := l) (by omega)
  obtain ⟨Q, hQ0, hQ⟩ : ∃ Q : Int, 0 ≤ Q ∧ Q.toNat = fstI (leastP l) l := ⟨((fstI (leastP l) l : Nat) : Int), by omega, by omega⟩
  have hf := fstI_at hm
  rw [← hQ] at hf
  have hQl := (List.getElem?_eq_some_iff.1 hf.1).1
  have dL := d_spec_l10Least hes (by omega) hQ0 hf hmin
  have dH := d_spec_l10Hull hes (by omega) hok
  have hhl := hullF_len (l := l) (by omega)
  obtain ⟨R, hR⟩ : ∃ R, R = (hullF l).map P2.pv := ⟨_, rfl⟩
  obtain ⟨U, hU⟩ : ∃ U, U = (rotF l).map P2.pv := ⟨_, rfl⟩
  have hrot : U = es.drop Q.toNat ++ es.take Q.toNat := by
    rw [hU, hes, hQ]; unfold rotF; rw [List.map_append, List.map_drop, List.map_take]
  have dE := d_spec_l10Same hR hU (by omega) (by unfold rotF; simp; omega)
  rw [← hR] at dH
  unfold convF at hK
  generalize decide (hullF l = rotF l) = B at hK dE
  clear hf hmin hm hQ hR hU hhl
  cbv
  refine Ar.call_ hA c_spec_l10Least dL rfl ?_
  cbv
  refine Ar.call_ hA c_spec_l10Hull dH rfl ?_
  cbv
  repeat' (first
    | apply And.intro
    | (refine Ar.lenN_ hA (fun n5 hn5 => ?_); cbv)
    | (refine Ar.nn_ hA (by omega) ?_; cbv)
    | (refine Ar.toN_ hA (fun j5 hj5 => ?_); cbv)
    | (refine Ar.rng_ hA (by omega) ?_; cbv)
    | (refine Ar.subN_ hA (fun m5 hm5 => ?_); cbv)
    | (refine Ar.wid_ hA (wide_pts hes _) ?_; cbv)
    | (refine Ar.slN_ hA (fun r1 hr1 => ?_); have hr1l : r1.length ≤ 12 := (by rw [hr1, List.length_take, List.length_drop]; omega); cbv)
    | (refine Ar.sl_ hA (fun r1 hr1 => ?_); have hr1l : r1.length ≤ 12 := (by rw [hr1, List.length_take, List.length_drop]; omega); cbv)
    | (refine Ar.wid_ hA (wide_sub hes (by assumption) _) ?_; cbv)
    | (refine Ar.app_ hA (fun r2 hr2 => ?_); have hr2l : r2.length ≤ 12 := (by rw [hr2, List.length_append]; first | omega | (simp only [List.length_nil]; omega)); cbv)
    | (refine Ar.app_ hA (fun r2 hr2 => ?_); have hr2l : r2.length ≤ 24 := (by rw [hr2, List.length_append]; first | omega | (simp only [List.length_nil]; omega)); cbv)
    | (refine Ar.fitsL_ hA (by omega) ?_; cbv))
  all_goals
    refine Ar.call_ hA c_spec_l10Same dE (by
      rw [hrot]
      clear dE dH dL hK hrot
      subst_vars
      simp [List.take_of_length_le]) ?_
    cbv
    exact hK _ _ rfl rfl

theorem c_impl_isConvex : Callable Try.prog 81 := ⟨_, Try.func81, rfl, by kernel_rfl⟩
theorem d_impl_isConvex {es : List PV} {l : List P2} (hes : es = l.map P2.pv) (h3 : 3 ≤ l.length) (hb : l.length ≤ 12) (hok : ∀ p ∈ l, p.ok = true) : Does Try.prog 81 [.sl es] (.pv (bl (convF l))) [] := by
  refine does_of hT hM Try.func81 rfl (D := []) (by kernel_rfl) rfl rfl rfl (fun A K hA hK => ?_)
  have hlen : es.length = l.length := by simp [hes]
  obtain ⟨hm, _, hhd⟩ := least_facts (l := l) (by omega)
  obtain ⟨Q, hQ0, hQ⟩ : ∃ Q : Int, 0 ≤ Q ∧ Q.toNat = fstI (leastP l) l := ⟨((fstI (leastP l) l : Nat) : Int), by omega, by omega⟩
  have hf := fstI_at hm
  rw [← hQ] at hf
  have hQl := (List.getElem?_eq_some_iff.1 hf.1).1
  obtain ⟨px, py, hp⟩ : ∃ x y, leastP l = ⟨x, y⟩ := ⟨_, _, rfl⟩
  rw [hp] at hf hhd
  have dL := d_slices_Index_impl_Pt_impl_Pt (q := Q) hes (by omega) hQ0 hf
  have dH := d_impl_hull hes (by omega) (by omega) hok
  have hhl := hullF_len (l := l) (by omega)
  obtain ⟨R, hR⟩ : ∃ R, R = (hullF l).map P2.pv := ⟨_, rfl⟩
  have hR0 : R[0]? = some (pt px py) := by rw [hR, List.getElem?_map, hhd]; rfl
  obtain ⟨ra, hra⟩ : ∃ r, r = (l.drop Q.toNat).map P2.pv := ⟨_, rfl⟩
  obtain ⟨rb, hrb⟩ : ∃ r, r = (l.take Q.toNat).map P2.pv := ⟨_, rfl⟩
  have ea : ra = es.drop Q.toNat := by rw [hra, hes, List.map_drop]
  have eb : rb = es.take Q.toNat := by rw [hrb, hes, List.map_take]
  have dC := d_slices_Concat_impl_Pt_impl_Pt hra hrb (by simp; omega)
  have hU : ra ++ rb = (rotF l).map P2.pv := by rw [hra, hrb, ← List.map_append, hQ]; rfl
  have dE := d_slices_Equal_impl_Pt_impl_Pt hU hR (by unfold rotF; simp; omega) (by omega)
  rw [← hR] at dH
  have hsym : decide (rotF l = hullF l) = decide (hullF l = rotF l) := decide_eq_decide.2 ⟨Eq.symm, Eq.symm⟩
  rw [hsym] at dE
  unfold convF at hK
  generalize decide (hullF l = rotF l) = B at hK dE
  generalize ra ++ rb = U at dC dE
  clear hf hhd hm hQ hR hU hhl hp hsym hra hrb
  cbv
  refine Ar.call_ hA c_impl_hull dH rfl ?_
  cbv
  refine Ar.nn_ hA (by omega) ?_
  cbv
  refine Ar.toN_ hA (fun j0 hj0 => ?_)
  cbv
  refine Ar.idx_ hA (x := pt px py) (by rw [hj0]; exact hR0) ?_
  cbv
  refine Ar.idx_ hA (x := pt px py) (by rw [hj0]; exact hR0) ?_
  cbv
  refine Ar.call_ hA c_slices_Index_impl_Pt_impl_Pt dL rfl ?_
  cbv
  repeat' (first
    | apply And.intro
    | (refine Ar.lenN_ hA (fun n5 hn5 => ?_); cbv)
    | (refine Ar.nn_ hA (by omega) ?_; cbv)
    | (refine Ar.toN_ hA (fun j5 hj5 => ?_); cbv)
    | (refine Ar.rng_ hA (by omega) ?_; cbv)
    | (refine Ar.subN_ hA (fun m5 hm5 => ?_); cbv)
    | (refine Ar.wid_ hA (wide_pts hes _) ?_; cbv)
    | (refine Ar.slN_ hA (fun r1 hr1 => ?_); have hr1l : r1.length ≤ 12 := (by rw [hr1, List.length_take, List.length_drop]; omega); cbv)
    | (refine Ar.sl_ hA (fun r1 hr1 => ?_); have hr1l : r1.length ≤ 12 := (by rw [hr1, List.length_take, List.length_drop]; omega); cbv)
    | (refine Ar.wid_ hA (wide_sub hes (by assumption) _) ?_; cbv)
    | (refine Ar.app_ hA (fun r2 hr2 => ?_); have hr2l : r2.length ≤ 12 := (by rw [hr2, List.length_append]; first | omega | (simp only [List.length_nil]; omega)); cbv)
    | (refine Ar.app_ hA (fun r2 hr2 => ?_); have hr2l : r2.length ≤ 24 := (by rw [hr2, List.length_append]; first | omega | (simp only [List.length_nil]; omega)); cbv)
    | (refine Ar.fitsL_ hA (by omega) ?_; cbv))
  all_goals
    refine Ar.call_ hA c_slices_Concat_impl_Pt_impl_Pt dC (by
      rw [ea, eb]
      clear dE dH dL dC hK ea eb
      subst_vars
      simp [List.take_of_length_le]) ?_
    cbv
    refine Ar.call_ hA c_slices_Equal_impl_Pt_impl_Pt dE rfl ?_
    cbv
    exact hK _ _ rfl rfl

theorem c_spec_IsConvex : Callable Try.prog 42 := ⟨_, Try.func42, rfl, by kernel_rfl⟩
theorem d_spec_IsConvex {es : List PV} {l : List P2} (hes : es = l.map P2.pv) (hb : l.length ≤ 1048576) : Does Try.prog 42 [.sl es] (.tup [.pv (bl (isWayF l && convF l)), .pv (bl (isWayF l))]) [] := by
  refine does_of hT hM Try.func42 rfl (D := []) (by kernel_rfl) rfl rfl rfl (fun A K hA hK => ?_)
  cbv
  refine Ar.callT hA c_spec_l8Way (d_spec_l8Way hes hb) rfl (fun hc => ?_) (fun hc => ?_)
  · obtain ⟨c1, c2, hok⟩ := isWayF_iff.1 hc
    rw [hc, Bool.true_and] at hK
    have ds := d_spec_l10Convex hes c1 c2 hok
    generalize convF l = B at ds hK
    cbv
    repeat' (first
      | (refine Ar.nn_ hA (by omega) ?_; cbv)
      | (refine Ar.toN_ hA (fun _ _ => ?_); cbv)
      | (refine Ar.notT_ hA ?_; cbv)
      | (refine Ar.notF_ hA ?_; cbv)
      | (refine Ar.lss_ hA (fun _ => ?_) (fun _ => ?_) <;> cbv)
      | (refine Ar.leq_ hA (fun _ => ?_) (fun _ => ?_) <;> cbv)
      | (refine Ar.gtr_ hA (fun _ => ?_) (fun _ => ?_) <;> cbv)
      | (refine Ar.geq_ hA (fun _ => ?_) (fun _ => ?_) <;> cbv)
      | (refine Ar.eql_ hA (fun _ => ?_) (fun _ => ?_) <;> cbv)
      | (refine Ar.neq_ hA (fun _ => ?_) (fun _ => ?_) <;> cbv)
      | (refine Ar.add_ hA (by omega) (fun _ _ => ?_); cbv)
      | (refine Ar.sub_ hA (by omega) (fun _ _ => ?_); cbv)
      | (refine Ar.neg_ hA (by omega) (fun _ _ => ?_); cbv)
      | (refine Ar.mulB hA 2000 2000 (by omega) (by omega) (by omega) (fun _ _ _ _ => ?_); cbv)
      | (refine Ar.mulB hA 3000000000 3000000000 (by omega) (by omega) (by omega) (fun _ _ _ _ => ?_); cbv)
      | (refine Ar.nz_ hA (by omega) ?_; cbv)
      | (refine Ar.rem_ hA (by omega) (fun _ _ => ?_); cbv)
      | (refine Ar.quo_ hA (by omega) (fun _ _ => ?_); cbv)
      | (refine Ar.mx_ hA (fun _ _ => ?_); cbv)
      | (refine Ar.mn_ hA (fun _ _ => ?_); cbv)
      | (refine Ar.len_ hA (fun _ _ _ => ?_); cbv)
      | (refine Ar.lenN_ hA (fun _ _ => ?_); cbv)
      | (refine Ar.bneq_ hA (fun _ => ?_) (fun _ => ?_) <;> cbv)
      | (refine Ar.beq_ hA (fun _ => ?_) (fun _ => ?_) <;> cbv)
      | (refine Ar.ofN_ hA (fun _ _ _ => ?_); cbv)
)
    refine Ar.call_ hA c_spec_l10Convex ds rfl ?_
    cbv
    exact hK _ _ rfl rfl
  · rw [hc] at hK
    cbv
    repeat' (first
      | (refine Ar.nn_ hA (by omega) ?_; cbv)
      | (refine Ar.toN_ hA (fun _ _ => ?_); cbv)
      | (refine Ar.notT_ hA ?_; cbv)
      | (refine Ar.notF_ hA ?_; cbv)
      | (refine Ar.lss_ hA (fun _ => ?_) (fun _ => ?_) <;> cbv)
      | (refine Ar.leq_ hA (fun _ => ?_) (fun _ => ?_) <;> cbv)
      | (refine Ar.gtr_ hA (fun _ => ?_) (fun _ => ?_) <;> cbv)
      | (refine Ar.geq_ hA (fun _ => ?_) (fun _ => ?_) <;> cbv)
      | (refine Ar.eql_ hA (fun _ => ?_) (fun _ => ?_) <;> cbv)
      | (refine Ar.neq_ hA (fun _ => ?_) (fun _ => ?_) <;> cbv)
      | (refine Ar.add_ hA (by omega) (fun _ _ => ?_); cbv)
      | (refine Ar.sub_ hA (by omega) (fun _ _ => ?_); cbv)
      | (refine Ar.neg_ hA (by omega) (fun _ _ => ?_); cbv)
      | (refine Ar.mulB hA 2000 2000 (by omega) (by omega) (by omega) (fun _ _ _ _ => ?_); cbv)
      | (refine Ar.mulB hA 3000000000 3000000000 (by omega) (by omega) (by omega) (fun _ _ _ _ => ?_); cbv)
      | (refine Ar.nz_ hA (by omega) ?_; cbv)
      | (refine Ar.rem_ hA (by omega) (fun _ _ => ?_); cbv)
      | (refine Ar.quo_ hA (by omega) (fun _ _ => ?_); cbv)
      | (refine Ar.mx_ hA (fun _ _ => ?_); cbv)
      | (refine Ar.mn_ hA (fun _ _ => ?_); cbv)
      | (refine Ar.len_ hA (fun _ _ _ => ?_); cbv)
      | (refine Ar.lenN_ hA (fun _ _ => ?_); cbv)
      | (refine Ar.bneq_ hA (fun _ => ?_) (fun _ => ?_) <;> cbv)
      | (refine Ar.beq_ hA (fun _ => ?_) (fun _ => ?_) <;> cbv)
      | (refine Ar.ofN_ hA (fun _ _ _ => ?_); cbv)
)
    exact hK _ _ rfl rfl

theorem c_impl_IsConvex : Callable Try.prog 43 := ⟨_, Try.func43, rfl, by kernel_rfl⟩
theorem d_impl_IsConvex {es : List PV} {l : List P2} (hes : es = l.map P2.pv) (hb : l.length ≤ 1048576) : Does Try.prog 43 [.sl es] (.tup [.pv (bl (isWayF l && convF l)), .pv (bl (isWayF l))]) [] := by
  refine does_of hT hM Try.func43 rfl (D := []) (by kernel_rfl) rfl rfl rfl (fun A K hA hK => ?_)
  cbv
  refine Ar.callT hA c_impl_isWay (d_impl_isWay hes hb) rfl (fun hc => ?_) (fun hc => ?_)
  · obtain ⟨c1, c2, hok⟩ := isWayF_iff.1 hc
    rw [hc, Bool.true_and] at hK
    have ds := d_impl_isConvex hes c1 c2 hok
    generalize convF l = B at ds hK
    cbv
    repeat' (first
      | (refine Ar.nn_ hA (by omega) ?_; cbv)
      | (refine Ar.toN_ hA (fun _ _ => ?_); cbv)
      | (refine Ar.notT_ hA ?_; cbv)
      | (refine Ar.notF_ hA ?_; cbv)
      | (refine Ar.lss_ hA (fun _ => ?_) (fun _ => ?_) <;> cbv)
      | (refine Ar.leq_ hA (fun _ => ?_) (fun _ => ?_) <;> cbv)
      | (refine Ar.gtr_ hA (fun _ => ?_) (fun _ => ?_) <;> cbv)
      | (refine Ar.geq_ hA (fun _ => ?_) (fun _ => ?_) <;> cbv)
      | (refine Ar.eql_ hA (fun _ => ?_) (fun _ => ?_) <;> cbv)
      | (refine Ar.neq_ hA (fun _ => ?_) (fun _ => ?_) <;> cbv)
      | (refine Ar.add_ hA (by omega) (fun _ _ => ?_); cbv)
      | (refine Ar.sub_ hA (by omega) (fun _ _ => ?_); cbv)
      | (refine Ar.neg_ hA (by omega) (fun _ _ => ?_); cbv)
      | (refine Ar.mulB hA 2000 2000 (by omega) (by omega) (by omega) (fun _ _ _ _ => ?_); cbv)
      | (refine Ar.mulB hA 3000000000 3000000000 (by omega) (by omega) (by omega) (fun _ _ _ _ => ?_); cbv)
      | (refine Ar.nz_ hA (by omega) ?_; cbv)
      | (refine Ar.rem_ hA (by omega) (fun _ _ => ?_); cbv)
      | (refine Ar.quo_ hA (by omega) (fun _ _ => ?_); cbv)
      | (refine Ar.mx_ hA (fun _ _ => ?_); cbv)
      | (refine Ar.mn_ hA (fun _ _ => ?_); cbv)
      | (refine Ar.len_ hA (fun _ _ _ => ?_); cbv)
      | (refine Ar.lenN_ hA (fun _ _ => ?_); cbv)
      | (refine Ar.bneq_ hA (fun _ => ?_) (fun _ => ?_) <;> cbv)
      | (refine Ar.beq_ hA (fun _ => ?_) (fun _ => ?_) <;> cbv)
      | (refine Ar.ofN_ hA (fun _ _ _ => ?_); cbv)
)
    refine Ar.call_ hA c_impl_isConvex ds rfl ?_
    cbv
    exact hK _ _ rfl rfl
  · rw [hc] at hK
    cbv
    repeat' (first
      | (refine Ar.nn_ hA (by omega) ?_; cbv)
      | (refine Ar.toN_ hA (fun _ _ => ?_); cbv)
      | (refine Ar.notT_ hA ?_; cbv)
      | (refine Ar.notF_ hA ?_; cbv)
      | (refine Ar.lss_ hA (fun _ => ?_) (fun _ => ?_) <;> cbv)
      | (refine Ar.leq_ hA (fun _ => ?_) (fun _ => ?_) <;> cbv)
      | (refine Ar.gtr_ hA (fun _ => ?_) (fun _ => ?_) <;> cbv)
      | (refine Ar.geq_ hA (fun _ => ?_) (fun _ => ?_) <;> cbv)
      | (refine Ar.eql_ hA (fun _ => ?_) (fun _ => ?_) <;> cbv)
      | (refine Ar.neq_ hA (fun _ => ?_) (fun _ => ?_) <;> cbv)
      | (refine Ar.add_ hA (by omega) (fun _ _ => ?_); cbv)
      | (refine Ar.sub_ hA (by omega) (fun _ _ => ?_); cbv)
      | (refine Ar.neg_ hA (by omega) (fun _ _ => ?_); cbv)
      | (refine Ar.mulB hA 2000 2000 (by omega) (by omega) (by omega) (fun _ _ _ _ => ?_); cbv)
      | (refine Ar.mulB hA 3000000000 3000000000 (by omega) (by omega) (by omega) (fun _ _ _ _ => ?_); cbv)
      | (refine Ar.nz_ hA (by omega) ?_; cbv)
      | (refine Ar.rem_ hA (by omega) (fun _ _ => ?_); cbv)
      | (refine Ar.quo_ hA (by omega) (fun _ _ => ?_); cbv)
      | (refine Ar.mx_ hA (fun _ _ => ?_); cbv)
      | (refine Ar.mn_ hA (fun _ _ => ?_); cbv)
      | (refine Ar.len_ hA (fun _ _ _ => ?_); cbv)
      | (refine Ar.lenN_ hA (fun _ _ => ?_); cbv)
      | (refine Ar.bneq_ hA (fun _ => ?_) (fun _ => ?_) <;> cbv)
      | (refine Ar.beq_ hA (fun _ => ?_) (fun _ => ?_) <;> cbv)
      | (refine Ar.ofN_ hA (fun _ _ _ => ?_); cbv)
)
    exact hK _ _ rfl rfl

theorem c_laws_FnExactIsConvex : Callable Try.prog 11 := ⟨_, Try.func11, rfl, by kernel_rfl⟩
theorem d_laws_FnExactIsConvex {es : List PV} {l : List P2} (hes : es = l.map P2.pv ∧ l.length ≤ 9223372036854775807) : Does Try.prog 11 [.sl es] (.pv (bl true)) [] := by
  refine does_of hT hM Try.func11 rfl (D := []) (by kernel_rfl) rfl rfl rfl (fun A K hA hK => ?_)
  obtain ⟨hes, hmax⟩ := hes
  have hlen : es.length = l.length := by simp [hes]
  cbv
  refine Ar.callI hA c_laws_szPtS (d_laws_szPtS (by omega) (by omega)) rfl (fun r hr => ?_)
  cbv
  refine Ar.lss_ hA (fun h => ?_) (fun h => ?_)
  · cbv
    exact hK _ _ rfl rfl
  have hb : l.length ≤ 1048576 := by have := szF_le hr h; omega
  have dS := d_spec_IsConvex hes hb
  have dI := d_impl_IsConvex hes hb
  have e1 := d_laws_eqPtS hes hes hb
  rw [decide_eq_true rfl] at e1
  generalize (isWayF l && convF l) = B at dS dI
  generalize isWayF l = G at dS dI
  cbv
  repeat' (first
    | (refine Ar.call_ hA c_laws_toPtS (d_laws_toPtS hes hb) rfl ?_; cbv)
    | (refine Ar.call_ hA c_spec_IsConvex dS rfl ?_; cbv)
    | (refine Ar.call_ hA c_impl_IsConvex dI rfl ?_; cbv)
    | (refine Ar.call_ hA c_laws_eqPtS e1 rfl ?_; cbv)
    | (refine Ar.notT_ hA ?_; cbv)
    | (refine Ar.bneq_ hA (fun h => absurd rfl h) (fun _ => ?_); cbv))
  exact hK _ _ rfl rfl

end Go.VAI
