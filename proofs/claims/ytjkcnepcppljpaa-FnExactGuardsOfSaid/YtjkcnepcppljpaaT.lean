/- IsSimple, InnerPoints. -/
import Derived.Test.YtjkcnepcppljpaaQ
namespace Go.VAI
open Go.Proofs
set_option maxRecDepth 100000
set_option maxHeartbeats 8000000

theorem Ar.eqPt_ {P : Program} {A : Ar} (hA : stdA P = A) {a b c d : Int} {K : Bool → Prop} (h1 : a = b ∧ c = d → K true) (h2 : ¬(a = b ∧ c = d) → K false) : A.bool (A.band (A.cmp .eql a b) (A.band (A.cmp .eql c d) true)) K := by
  subst hA
  show K ((a == b) && ((c == d) && true))
  by_cases h : a = b ∧ c = d
  · rw [beq_iff_eq.2 h.1, beq_iff_eq.2 h.2]; exact h1 h
  · have : ((a == b) && ((c == d) && true)) = false := by
      rw [Bool.and_true, Bool.and_eq_false_iff]
      by_cases h' : a = b
      · exact .inr (beq_eq_false_iff_ne.2 (fun e => h ⟨h', e⟩))
      · exact .inl (beq_eq_false_iff_ne.2 h')
    rw [this]; exact h2 h

/-- Keeps a statement yet unknown from the eyes of omega. -/
structure Hold' (p : Prop) : Prop where
  it : p
theorem share' {p X : Prop} (h : p) (k : Hold' p → X) : X := k ⟨h⟩

def eqE (l : List P2) (i : Nat) : Bool := decide (at0 l i = nx l i)
def consE (l : List P2) (i : Nat) : Bool := onSeg (nx l i) (nx l (i + 1)) (at0 l i) || onSeg (at0 l i) (nx l i) (nx l (i + 1))
def meetE (l : List P2) (i j : Nat) : Bool := meetF (at0 l i) (nx l i) (at0 l j) (nx l j)
/-- Edges i and j are no neighbours, i ahead. -/
def Far (n i j : Nat) : Prop := i + 2 ≤ j ∧ j < n ∧ ¬(i = 0 ∧ j + 1 = n)
def goodE (l : List P2) (i : Nat) : Bool := !(eqE l i) && !(consE l i) && (List.range l.length).all fun j => !(decide (i + 2 ≤ j) && !(decide (i = 0) && decide (j + 1 = l.length)) && meetE l i j)
def simpleF (l : List P2) : Bool := (List.range l.length).all (goodE l)

theorem goodE_iff {l : List P2} {i : Nat} : goodE l i = true ↔ eqE l i = false ∧ consE l i = false ∧ ∀ j, Far l.length i j → meetE l i j = false := by
  unfold goodE Far
  simp only [Bool.and_eq_true, Bool.not_eq_true', List.all_eq_true, List.mem_range]
  constructor
  · rintro ⟨⟨h1, h2⟩, h3⟩
    refine ⟨h1, h2, fun j ⟨g1, g2, g3⟩ => ?_⟩
    have := h3 j g2
    by_cases h4 : i = 0 <;> by_cases h5 : j + 1 = l.length <;> simp_all
  · rintro ⟨h1, h2, h3⟩
    refine ⟨⟨h1, h2⟩, fun j hj => ?_⟩
    by_cases g : i + 2 ≤ j ∧ ¬(i = 0 ∧ j + 1 = l.length)
    · rw [h3 j ⟨g.1, hj, g.2⟩, Bool.and_false]
    · rw [show (decide (i + 2 ≤ j) && !(decide (i = 0) && decide (j + 1 = l.length))) = false from ?_, Bool.false_and]
      by_cases g1 : i + 2 ≤ j
      · have : i = 0 ∧ j + 1 = l.length := by
          by_cases g2 : i = 0 ∧ j + 1 = l.length
          · exact g2
          · exact absurd ⟨g1, g2⟩ g
        simp [this]
      · simp [g1]

theorem simple_yes {l : List P2} (h : ∀ i, i < l.length → eqE l i = false ∧ consE l i = false ∧ ∀ j, Far l.length i j → meetE l i j = false) : simpleF l = true := by
  unfold simpleF
  rw [List.all_eq_true]
  intro i hi
  exact goodE_iff.2 (h i (List.mem_range.1 hi))

theorem simple_no {l : List P2} {i : Nat} (hi : i < l.length) (h : ¬(eqE l i = false ∧ consE l i = false ∧ ∀ j, Far l.length i j → meetE l i j = false)) : simpleF l = false := by
  cases hs : simpleF l with
  | false => rfl
  | true =>
    unfold simpleF at hs
    rw [List.all_eq_true] at hs
    exact absurd (goodE_iff.1 (hs i (List.mem_range.2 hi))) h

theorem rem_far {n i j r : Int} (hi : 0 ≤ i) (hij : i + 2 ≤ j) (hj : j < n) (hr : r = (j + 1) % n) : (r ≠ i ↔ ¬(i = 0 ∧ j + 1 = n)) := by
  by_cases h : j + 1 = n
  · have : r = 0 := by rw [hr, h]; exact Int.emod_self
    omega
  · have : r = j + 1 := by rw [hr]; exact Int.emod_eq_of_lt (by omega) (by omega)
    omega

theorem c_spec_l8Simple : Callable Try.prog 42 := ⟨_, Try.func42, rfl, by kernel_rfl⟩
theorem d_spec_l8Simple {es : List PV} {l : List P2} (hes : es = l.map P2.pv) (h0 : 3 ≤ l.length) (hb : l.length ≤ 12) (hok : ∀ p ∈ l, p.ok = true) : Does Try.prog 42 [.sl es] (.pv (bl (simpleF l))) [] := by
  refine does_of hT hM Try.func42 rfl (D := []) (by kernel_rfl) rfl rfl rfl (fun A K hA hK => ?_)
  have hlen : es.length = l.length := by simp [hes]
  have hyes := simple_yes (l := l)
  have hno := fun i => simple_no (l := l) (i := i)
  obtain ⟨B, hB⟩ : ∃ B, B = simpleF l := ⟨_, rfl⟩
  rw [← hB] at hyes hK
  simp only [← hB] at hno
  clear hB
  cbv
  refine Ar.len_ hA (fun n hn hn' => ?_)
  cbv
  refine Ar.loop_ hA (α := Int) (fun i => (n - i).toNat) (fun i => 0 ≤ i ∧ i ≤ n ∧ ∀ k, k < i.toNat → eqE l k = false ∧ consE l k = false ∧ ∀ j, Far l.length k j → meetE l k j = false) 68 (fun i => [(0, .pv (.sl es) []), (3, .pv (i64 n) []), (4, .pv (i64 i) [])]) (fun _ => []) 0 ⟨rfl, ⟨rfl, rfl, rfl, trivial⟩, trivial⟩ ⟨by omega, by omega, fun k hk => absurd hk (by simp)⟩ ?_
  intro i s f ⟨h1, h2, h3⟩
  cbv
  refine Ar.lss_ hA (fun h => ?_) (fun h => ?_)
  · cbv
    refine Ar.nn_ hA (by omega) ?_
    cbv
    refine Ar.toN_ hA (fun j hj => ?_)
    cbv
    obtain ⟨⟨px, py⟩, hp⟩ : ∃ p, l[j]? = some p := ⟨l[j]'(by omega), List.getElem?_eq_getElem _⟩
    refine Ar.idx_ hA (x := pt px py) (by simp [hes, hp, P2.pv]) ?_
    cbv
    have hil : i.toNat < l.length := by omega
    have bp := ok_bounds hok hp
    have bn := nx_bounds hok (by omega) i.toNat
    have bm := nx_bounds hok (by omega) (i.toNat + 1)
    obtain ⟨nxx, nxy, hn0⟩ : ∃ x y, nx l i.toNat = ⟨x, y⟩ := ⟨_, _, rfl⟩
    obtain ⟨mx, my, hm0⟩ : ∃ x y, nx l (i.toNat + 1) = ⟨x, y⟩ := ⟨_, _, rfl⟩
    have dn := d_spec_l8Next (i := i) hes (by omega) (by omega) (by omega)
    have dm := fun i1 (hi1 : i1 = i + 1) => d_spec_l8Next (i := i1) hes (by omega) (by omega) (by omega)
    have dm' : ∀ i1, i1 = i + 1 → Does Try.prog 46 [.sl es, i64 i1] (.ag [.pv (i64 mx), .pv (i64 my)]) [] := fun i1 hi1 => by
      have := dm i1 hi1
      rw [show i1.toNat = i.toNat + 1 by omega, hm0] at this
      exact this
    clear dm
    have ha0 : at0 l i.toNat = ⟨px, py⟩ := by rw [← hj]; exact at0_of hp
    rw [hn0] at dn bn
    rw [hm0] at bm
    simp only at dn bn bm
    have hE : eqE l i.toNat = decide ((⟨px, py⟩ : P2) = ⟨nxx, nxy⟩) := by unfold eqE; rw [ha0, hn0]
    have hC : consE l i.toNat = (onSeg ⟨nxx, nxy⟩ ⟨mx, my⟩ ⟨px, py⟩ || onSeg ⟨px, py⟩ ⟨nxx, nxy⟩ ⟨mx, my⟩) := by unfold consE; rw [ha0, hn0, hm0]
    refine Ar.call_ hA c_spec_l8Next dn rfl ?_
    cbv
    refine Ar.eqPt_ hA (fun he => ?_) (fun he => ?_)
    · have : B = false := hno i.toNat hil (fun g => by rw [hE] at g; have := g.1; simp [he.1, he.2] at this)
      cbv
      exact hK _ _ (by rw [this]) rfl
    have hE' : eqE l i.toNat = false := by rw [hE]; exact decide_eq_false (fun e => he (by cases e; exact ⟨rfl, rfl⟩))
    cbv
    refine Ar.add_ hA (by omega) (fun i1 hi1 => ?_)
    cbv
    refine Ar.call_ hA c_spec_l8Next (dm' i1 hi1) rfl ?_
    cbv
    refine Ar.callT hA c_spec_l8On (d_spec_l8On bn bm bp) rfl (fun ho1 => ?_) (fun ho1 => ?_)
    · have : B = false := hno i.toNat hil (fun g => by rw [hC, ho1] at g; simp at g)
      cbv
      exact hK _ _ (by rw [this]) rfl
    cbv
    refine Ar.add_ hA (by omega) (fun i1' hi1' => ?_)
    cbv
    refine Ar.call_ hA c_spec_l8Next (dm' i1' hi1') rfl ?_
    cbv
    refine Ar.callT hA c_spec_l8On (d_spec_l8On bp bn bm) rfl (fun ho2 => ?_) (fun ho2 => ?_)
    · have : B = false := hno i.toNat hil (fun g => by rw [hC, ho2] at g; simp at g)
      cbv
      exact hK _ _ (by rw [this]) rfl
    have hC' : consE l i.toNat = false := by rw [hC, ho1, ho2]; rfl
    cbv
    refine Ar.add_ hA (by omega) (fun j0 hj0 => ?_)
    cbv
    refine Ar.loop_ hA (α := Int) (fun q => (n + 2 - q).toNat) (fun q => i + 2 ≤ q ∧ q ≤ n + 2 ∧ ∀ k, k < q.toNat → Far l.length i.toNat k → meetE l i.toNat k = false) 68 (fun q => [(0, .pv (.sl es) []), (3, .pv (i64 n) []), (4, .pv (i64 i) []), (5, .ref 5 0), (6, .ref 6 0), (7, .pv (i64 q) [])]) (fun _ => [(5, some (.cell [.pv (i64 px) [], .pv (i64 py) []])), (6, some (.cell [.pv (i64 nxx) [], .pv (i64 nxy) []]))]) j0 (by refine ⟨?_, ⟨?_, ?_, ?_, ?_, ?_, ?_, trivial⟩, ?_, ?_, trivial⟩ <;> cbv) ⟨by omega, by omega, fun k hk hf => absurd hf.1 (by omega)⟩ ?_
    intro q s f ⟨g1, g2, g3⟩
    cbv
    refine Ar.lss_ hA (fun g => ?_) (fun g => ?_)
    · cbv
      refine Ar.add_ hA (by omega) (fun q1 hq1 => ?_)
      cbv
      refine Ar.nz_ hA (by omega) ?_
      cbv
      refine Ar.rem_ hA (by omega) (fun r hr => ?_)
      have hfar := rem_far (r := r) h1 g1 g (by rw [hr, hq1])
      cbv
      refine Ar.neq_ hA (fun hne => ?_) (fun heq => ?_)
      · have hF : Far l.length i.toNat q.toNat := ⟨by omega, by omega, fun e => hfar.1 hne (by omega)⟩
        cbv
        refine Ar.nn_ hA (by omega) ?_
        cbv
        refine Ar.toN_ hA (fun jq hjq => ?_)
        cbv
        obtain ⟨⟨cx, cy⟩, hc⟩ : ∃ p, l[jq]? = some p := ⟨l[jq]'(by omega), List.getElem?_eq_getElem _⟩
        have bc := ok_bounds hok hc
        have bd := nx_bounds hok (by omega) q.toNat
        have hc0 : at0 l q.toNat = ⟨cx, cy⟩ := by rw [← hjq]; exact at0_of hc
        obtain ⟨ex, ey, hd0⟩ : ∃ x y, nx l q.toNat = ⟨x, y⟩ := ⟨_, _, rfl⟩
        have dd := d_spec_l8Next (i := q) hes (by omega) (by omega) (by omega)
        rw [hd0] at dd bd
        simp only at dd bd
        have hM : meetE l i.toNat q.toNat = meetF ⟨px, py⟩ ⟨nxx, nxy⟩ ⟨cx, cy⟩ ⟨ex, ey⟩ := by unfold meetE; rw [ha0, hn0, hc0, hd0]
        refine Ar.idx_ hA (x := pt cx cy) (by simp [hes, hc, P2.pv]) ?_
        cbv
        refine Ar.call_ hA c_spec_l8Next dd rfl ?_
        cbv
        refine Ar.callT hA c_spec_l8Meet (d_spec_l8Meet bp bn bc bd) rfl (fun hm => ?_) (fun hm => ?_)
        · have : B = false := hno i.toNat hil (fun g => by have := g.2.2 q.toNat hF; rw [hM, hm] at this; cases this)
          cbv
          exact hK _ _ (by rw [this]) rfl
        · cbv
          refine Ar.add_ hA (by omega) (fun q' hq' => ?_)
          cbv
          refine ⟨q', (by show (n + 2 - q').toNat < (n + 2 - q).toNat; omega), ⟨by omega, by omega, fun k hk hf => ?_⟩, rfl, ⟨rfl, rfl, rfl, rfl, rfl, rfl, trivial⟩, rfl, rfl, trivial⟩
          by_cases hkq : k = q.toNat
          · rw [hkq, hM, hm]
          · exact g3 k (by omega) hf
      · cbv
        refine Ar.add_ hA (by omega) (fun q' hq' => ?_)
        cbv
        refine ⟨q', (by show (n + 2 - q').toNat < (n + 2 - q).toNat; omega), ⟨by omega, by omega, fun k hk hf => ?_⟩, rfl, ⟨rfl, rfl, rfl, rfl, rfl, rfl, trivial⟩, rfl, rfl, trivial⟩
        by_cases hkq : k = q.toNat
        · exfalso
          have : i = 0 ∧ q + 1 = n := by
            by_cases e : i = 0 ∧ q + 1 = n
            · exact e
            · exact absurd heq (hfar.2 e)
          exact hf.2.2 (by omega)
        · exact g3 k (by omega) hf
    · cbv
      refine Ar.add_ hA (by omega) (fun i' hi' => ?_)
      cbv
      refine ⟨i', (by show (n - i').toNat < (n - i).toNat; omega), ⟨by omega, by omega, fun k hk => ?_⟩, rfl, ⟨rfl, rfl, rfl, trivial⟩, trivial⟩
      by_cases hki : k = i.toNat
      · rw [hki]
        exact ⟨hE', hC', fun m hm => g3 m (by have := hm.2.1; omega) hm⟩
      · exact h3 k (by omega)
  · cbv
    have : B = true := hyes (fun i' hi' => h3 i' (by omega))
    exact hK _ _ (by rw [this]) rfl

theorem nx_at {l : List P2} {i : Nat} (h : i + 1 < l.length) : nx l i = at0 l (i + 1) := by
  unfold nx at0; rw [Nat.mod_eq_of_lt h]
theorem nx_last {l : List P2} {i : Nat} (h : i + 1 = l.length) : nx l i = at0 l 0 := by
  unfold nx at0; rw [h, Nat.mod_self]
theorem nx_wrap {l : List P2} {i : Nat} (h : i = l.length) : nx l i = nx l 0 := by
  unfold nx; rw [h, Nat.add_mod_left, Nat.zero_add]

/-- What the edges i and m, i ahead, must not do. -/
def PairOk (l : List P2) (i m : Nat) : Prop := (m = i + 1 → consE l i = false) ∧ (i = 0 ∧ m + 1 = l.length → consE l m = false) ∧ (Far l.length i m → meetE l i m = false)

theorem simple_yes' {l : List P2} (h0 : 3 ≤ l.length) (h : ∀ i, i < l.length → eqE l i = false ∧ ∀ m, i < m → m < l.length → PairOk l i m) : simpleF l = true := by
  refine simple_yes (fun i hi => ⟨(h i hi).1, ?_, fun m hm => ((h i hi).2 m (by have := hm.1; omega) hm.2.1).2.2 hm⟩)
  by_cases e : i + 1 = l.length
  · exact ((h 0 (by omega)).2 i (by omega) hi).2.1 ⟨rfl, e⟩
  · exact ((h i hi).2 (i + 1) (by omega) (by omega)).1 rfl

theorem simple_no' {l : List P2} {i m : Nat} (hi : i < m) (hm : m < l.length) (h : ¬PairOk l i m) : simpleF l = false := by
  cases hs : simpleF l with
  | false => rfl
  | true =>
    have g : ∀ k, k < l.length → eqE l k = false ∧ consE l k = false ∧ ∀ j, Far l.length k j → meetE l k j = false := by
      intro k hk
      by_cases e : eqE l k = false ∧ consE l k = false ∧ ∀ j, Far l.length k j → meetE l k j = false
      · exact e
      · rw [simple_no hk e] at hs; cases hs
    exact absurd ⟨fun _ => (g i (by omega)).2.1, fun _ => (g m hm).2.1, fun f => (g i (by omega)).2.2 m f⟩ h

theorem c_impl_isSimple : Callable Try.prog 48 := ⟨_, Try.func48, rfl, by kernel_rfl⟩
theorem d_impl_isSimple {es : List PV} {l : List P2} (hes : es = l.map P2.pv) (h0 : 3 ≤ l.length) (hb : l.length ≤ 12) (hok : ∀ p ∈ l, p.ok = true) : Does Try.prog 48 [.sl es] (.pv (bl (simpleF l))) [] := by
  refine does_of hT hM Try.func48 rfl (D := [(5, [0, 1, 2, 3, 5, 6, 7, 10, 11]), (11, [0, 1, 2, 3, 5, 6, 7, 10, 11])]) (by kernel_rfl) rfl rfl rfl (fun A K hA hK => ?_)
  have hlen : es.length = l.length := by simp [hes]
  have hyes := simple_yes' h0
  have hno := fun i => simple_no (l := l) (i := i)
  have hno' := fun i m => simple_no' (l := l) (i := i) (m := m)
  obtain ⟨B, hB0⟩ : ∃ B, B = simpleF l := ⟨_, rfl⟩
  rw [← hB0] at hyes hK
  simp only [← hB0] at hno hno'
  clear hB0
  cbv
  refine Ar.len_ hA (fun n hn hn' => ?_)
  cbv
  refine Ar.len_ hA (fun n2 hm hm' => ?_)
  obtain rfl : n = n2 := by omega
  cbv
  refine Ar.loop_ hA (α := Int) (fun i => (n - i).toNat) (fun i => 0 ≤ i ∧ i ≤ n ∧ ∀ k, k < i.toNat → eqE l k = false ∧ ∀ m, k < m → m < l.length → PairOk l k m) 88 (fun i => [(0, .pv (.sl es) []), (3, .pv (i64 n) []), (13, .pv (i64 n) []), (14, .pv (i64 i) [])]) (fun _ => []) 0 ⟨rfl, ⟨rfl, rfl, rfl, rfl, trivial⟩, trivial⟩ ⟨by omega, by omega, fun k hk => absurd hk (by simp)⟩ ?_
  intro i s f ⟨h1, h2, h3⟩
  cbv
  refine Ar.lss_ hA (fun h => ?_) (fun h => ?_)
  · have hil : i.toNat < l.length := by omega
    obtain ⟨⟨px, py⟩, hp⟩ : ∃ p, l[i.toNat]? = some p := ⟨l[i.toNat]'(by omega), List.getElem?_eq_getElem _⟩
    have bp := ok_bounds hok hp
    have bn := nx_bounds hok (by omega) i.toNat
    obtain ⟨nxx, nxy, hn0⟩ : ∃ x y, nx l i.toNat = ⟨x, y⟩ := ⟨_, _, rfl⟩
    have ha0 : at0 l i.toNat = ⟨px, py⟩ := at0_of hp
    rw [hn0] at bn
    simp only at bn
    have hE : eqE l i.toNat = decide ((⟨px, py⟩ : P2) = ⟨nxx, nxy⟩) := by unfold eqE; rw [ha0, hn0]
    have hE1 : px = nxx ∧ py = nxy → B = false := fun he => hno i.toNat hil (fun g => by rw [hE] at g; have := g.1; simp [he.1, he.2] at this)
    have hE2 : ¬(px = nxx ∧ py = nxy) → eqE l i.toNat = false := fun he => by rw [hE]; exact decide_eq_false (fun e => he (by cases e; exact ⟨rfl, rfl⟩))
    apply share'
    case k =>
      intro hB
      cbv
      refine Ar.nn_ hA (by omega) ?_
      cbv
      refine Ar.toN_ hA (fun j hj => ?_)
      cbv
      refine Ar.idx_ hA (x := pt px py) (by simp [hj, hes, hp, P2.pv]) ?_
      cbv
      refine Ar.callI hA c_impl_after (d_impl_after hes (by omega) (by omega) (by omega)) rfl (fun r hr => ?_)
      obtain ⟨hr1, hr2, hr3⟩ := after_idx (by omega) h1 hr
      rw [hn0] at hr3
      cbv
      repeat' (first
        | apply And.intro
        | (refine Ar.nn_ hA (by omega) ?_; cbv)
        | (refine Ar.toN_ hA (fun j2 hj2 => ?_); cbv)
        | (refine Ar.idx_ hA (x := pt nxx nxy) (by rw [hj2, hes]; simp [hr3, P2.pv]) ?_; cbv))
      all_goals
        refine Ar.eqPt_ hA (fun he => ?_) (fun he => ?_)
        · have : B = false := hE1 he
          cbv
          exact hK _ _ (by rw [this]) rfl
        have hE' : eqE l i.toNat = false := hE2 he
        cbv
        refine Ar.add_ hA (by omega) (fun j0 hj0 => ?_)
        cbv
        refine Ar.loop_ hA (α := Int) (fun q => (n - q).toNat) (fun q => i + 1 ≤ q ∧ q ≤ n ∧ eqE l i.toNat = false ∧ ∀ k, i.toNat < k → k < q.toNat → PairOk l i.toNat k) 88 (fun q => [(0, .pv (.sl es) []), (3, .pv (i64 n) []), (4, .pv (i64 i) []), (5, .ref 5 0), (6, .ref 6 0), (7, .pv (i64 q) []), (13, .pv (i64 n) []), (14, .pv (i64 i) [])]) (fun _ => [(5, some (.cell [.pv (i64 px) [], .pv (i64 py) []])), (6, some (.cell [.pv (i64 nxx) [], .pv (i64 nxy) []]))]) j0 (by refine ⟨?_, ⟨?_, ?_, ?_, ?_, ?_, ?_, ?_, ?_, trivial⟩, ?_, ?_, trivial⟩ <;> cbv) ⟨by omega, by omega, hE', fun k hk1 hk2 => by omega⟩ ?_
        exact hB.it
    intro q s f ⟨g1, g2, g4, g3⟩
    cbv
    refine Ar.lss_ hA (fun g => ?_) (fun g => ?_)
    · have hql : q.toNat < l.length := by omega
      obtain ⟨⟨cx, cy⟩, hc⟩ : ∃ p, l[q.toNat]? = some p := ⟨l[q.toNat]'(by omega), List.getElem?_eq_getElem _⟩
      have bc := ok_bounds hok hc
      have bd := nx_bounds hok (by omega) q.toNat
      obtain ⟨ex, ey, hd0⟩ : ∃ x y, nx l q.toNat = ⟨x, y⟩ := ⟨_, _, rfl⟩
      have hc0 : at0 l q.toNat = ⟨cx, cy⟩ := at0_of hc
      rw [hd0] at bd
      simp only at bd
      have hM : meetE l i.toNat q.toNat = meetF ⟨px, py⟩ ⟨nxx, nxy⟩ ⟨cx, cy⟩ ⟨ex, ey⟩ := by unfold meetE; rw [ha0, hn0, hc0, hd0]
      have hC1 : q = i + 1 → consE l i.toNat = (onSeg ⟨cx, cy⟩ ⟨ex, ey⟩ ⟨px, py⟩ || onSeg ⟨px, py⟩ ⟨nxx, nxy⟩ ⟨ex, ey⟩) := fun e => by
        have e1 : nx l i.toNat = ⟨cx, cy⟩ := by rw [nx_at (by omega), show i.toNat + 1 = q.toNat by omega, hc0]
        unfold consE
        rw [show i.toNat + 1 = q.toNat by omega, hd0, ha0, hn0]
        rw [hn0] at e1
        rw [e1]
      have hC2 : i = 0 → q + 1 = n → consE l q.toNat = (onSeg ⟨px, py⟩ ⟨nxx, nxy⟩ ⟨cx, cy⟩ || onSeg ⟨cx, cy⟩ ⟨ex, ey⟩ ⟨nxx, nxy⟩) := fun e1 e2 => by
        have e3 : nx l q.toNat = ⟨px, py⟩ := by rw [nx_last (by omega), ← ha0, e1]; rfl
        have e4 : nx l (q.toNat + 1) = ⟨nxx, nxy⟩ := by rw [nx_wrap (by omega), ← hn0, e1]; rfl
        unfold consE
        rw [e4, hc0, e3]
        rw [hd0] at e3
        rw [e3]
      have hbad : ¬PairOk l i.toNat q.toNat → B = false := hno' i.toNat q.toNat (by omega) hql
      have hgood : ∀ q', q' = q + 1 → PairOk l i.toNat q.toNat → ∀ k, i.toNat < k → k < q'.toNat → PairOk l i.toNat k := fun q' hq' hP k hk1 hk2 => by
        by_cases hkq : k = q.toNat
        · rw [hkq]; exact hP
        · exact g3 k hk1 (by omega)
      cbv
      refine Ar.nn_ hA (by omega) ?_
      cbv
      refine Ar.toN_ hA (fun j hj => ?_)
      cbv
      refine Ar.idx_ hA (x := pt cx cy) (by simp [hj, hes, hc, P2.pv]) ?_
      cbv
      refine Ar.callI hA c_impl_after (d_impl_after hes (by omega) (by omega) (by omega)) rfl (fun r hr => ?_)
      obtain ⟨hr1, hr2, hr3⟩ := after_idx (by omega) (by omega) hr
      rw [hd0] at hr3
      cbv
      repeat' (first
        | apply And.intro
        | (refine Ar.nn_ hA (by omega) ?_; cbv)
        | (refine Ar.toN_ hA (fun j2 hj2 => ?_); cbv)
        | (refine Ar.idx_ hA (x := pt ex ey) (by rw [hj2, hes]; simp [hr3, P2.pv]) ?_; cbv))
      all_goals
        refine Ar.add_ hA (by omega) (fun i1 hi1 => ?_)
        cbv
        refine Ar.eql_ hA (fun hq1 => ?_) (fun hq1 => ?_)
        · cbv
          refine Ar.callT hA c_impl_isOn (d_impl_isOn bp bn bd) rfl (fun ho1 => ?_) (fun ho1 => ?_)
          · have : B = false := hbad (fun hP => by have := hP.1 (by omega); rw [hC1 (by omega), ho1, Bool.or_true] at this; cases this)
            cbv
            exact hK _ _ (by rw [this]) rfl
          cbv
          refine Ar.callT hA c_impl_isOn (d_impl_isOn bc bd bp) rfl (fun ho2 => ?_) (fun ho2 => ?_)
          · have : B = false := hbad (fun hP => by have := hP.1 (by omega); rw [hC1 (by omega), ho2, Bool.true_or] at this; cases this)
            cbv
            exact hK _ _ (by rw [this]) rfl
          have hP : PairOk l i.toNat q.toNat := ⟨fun _ => by rw [hC1 (by omega), ho1, ho2]; rfl, fun e => absurd e (by omega), fun hf => absurd hf.1 (by omega)⟩
          cbv
          refine Ar.add_ hA (by omega) (fun q' hq' => ?_)
          cbv
          exact ⟨q', (by show (n - q').toNat < (n - q).toNat; omega), ⟨by omega, by omega, g4, hgood q' hq' hP⟩, (by refine ⟨?_, ⟨?_, ?_, ?_, ?_, ?_, ?_, ?_, ?_, trivial⟩, ?_, ?_, trivial⟩ <;> cbv)⟩
        · cbv
          refine Ar.eql_ hA (fun hi0 => ?_) (fun hi0 => ?_)
          · cbv
            refine Ar.sub_ hA (by omega) (fun n1 hn1 => ?_)
            cbv
            refine Ar.eql_ hA (fun hq2 => ?_) (fun hq2 => ?_)
            · cbv
              refine Ar.callT hA c_impl_isOn (d_impl_isOn bp bn bc) rfl (fun ho1 => ?_) (fun ho1 => ?_)
              · have : B = false := hbad (fun hP => by have := hP.2.1 (by omega); rw [hC2 hi0 (by omega), ho1, Bool.true_or] at this; cases this)
                cbv
                exact hK _ _ (by rw [this]) rfl
              cbv
              refine Ar.callT hA c_impl_isOn (d_impl_isOn bc bd bn) rfl (fun ho2 => ?_) (fun ho2 => ?_)
              · have : B = false := hbad (fun hP => by have := hP.2.1 (by omega); rw [hC2 hi0 (by omega), ho2, Bool.or_true] at this; cases this)
                cbv
                exact hK _ _ (by rw [this]) rfl
              have hP : PairOk l i.toNat q.toNat := ⟨fun e => absurd e (by omega), fun _ => by rw [hC2 hi0 (by omega), ho1, ho2]; rfl, fun hf => absurd hf.2.2 (by omega)⟩
              cbv
              refine Ar.add_ hA (by omega) (fun q' hq' => ?_)
              cbv
              exact ⟨q', (by show (n - q').toNat < (n - q).toNat; omega), ⟨by omega, by omega, g4, hgood q' hq' hP⟩, (by refine ⟨?_, ⟨?_, ?_, ?_, ?_, ?_, ?_, ?_, ?_, trivial⟩, ?_, ?_, trivial⟩ <;> cbv)⟩
            · cbv
              have hn3 : ¬(i = 0 ∧ q + 1 = n) := by omega
              refine Ar.callT hA c_impl_meet (d_impl_meet bp bn bc bd) rfl (fun hm => ?_) (fun hm => ?_)
              · have : B = false := hbad (fun hP => by have := hP.2.2 ⟨by omega, by omega, by omega⟩; rw [hM, hm] at this; cases this)
                cbv
                exact hK _ _ (by rw [this]) rfl
              · have hP : PairOk l i.toNat q.toNat := ⟨fun e => absurd e (by omega), fun e => absurd e (by omega), fun _ => by rw [hM, hm]⟩
                cbv
                refine Ar.add_ hA (by omega) (fun q' hq' => ?_)
                cbv
                exact ⟨q', (by show (n - q').toNat < (n - q).toNat; omega), ⟨by omega, by omega, g4, hgood q' hq' hP⟩, (by refine ⟨?_, ⟨?_, ?_, ?_, ?_, ?_, ?_, ?_, ?_, trivial⟩, ?_, ?_, trivial⟩ <;> cbv)⟩
          · cbv
            have hn3 : ¬(i = 0 ∧ q + 1 = n) := by omega
            refine Ar.callT hA c_impl_meet (d_impl_meet bp bn bc bd) rfl (fun hm => ?_) (fun hm => ?_)
            · have : B = false := hbad (fun hP => by have := hP.2.2 ⟨by omega, by omega, by omega⟩; rw [hM, hm] at this; cases this)
              cbv
              exact hK _ _ (by rw [this]) rfl
            · have hP : PairOk l i.toNat q.toNat := ⟨fun e => absurd e (by omega), fun e => absurd e (by omega), fun _ => by rw [hM, hm]⟩
              cbv
              refine Ar.add_ hA (by omega) (fun q' hq' => ?_)
              cbv
              exact ⟨q', (by show (n - q').toNat < (n - q).toNat; omega), ⟨by omega, by omega, g4, hgood q' hq' hP⟩, (by refine ⟨?_, ⟨?_, ?_, ?_, ?_, ?_, ?_, ?_, ?_, trivial⟩, ?_, ?_, trivial⟩ <;> cbv)⟩
    · cbv
      refine Ar.add_ hA (by omega) (fun i' hi' => ?_)
      cbv
      refine ⟨i', (by show (n - i').toNat < (n - i).toNat; omega), ⟨by omega, by omega, fun k hk => ?_⟩, rfl, ⟨rfl, rfl, rfl, rfl, trivial⟩, trivial⟩
      by_cases hki : k = i.toNat
      · rw [hki]
        exact ⟨g4, fun m hm1 hm2 => g3 m hm1 (by omega)⟩
      · exact h3 k (by omega)
  · cbv
    have : B = true := hyes (fun i' hi' => h3 i' (by omega))
    exact hK _ _ (by rw [this]) rfl

end Go.VAI
