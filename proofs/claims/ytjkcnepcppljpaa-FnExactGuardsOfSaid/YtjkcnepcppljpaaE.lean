/- Rows of points and of numbers: what the laws make of their arguments, and WidestIn, AreaTwice, Sees. -/
import Derived.Test.YtjkcnepcppljpaaD
namespace Go.VAI
open Go.Proofs
set_option maxRecDepth 100000
set_option maxHeartbeats 8000000

theorem pts_of {es : List PV} (h : ∀ x ∈ es, ofLeaves true (leaves x) = some x ∧ hasL 5 47 (leaves x)) : ∃ l : List P2, es = l.map P2.pv := by
  induction es with
  | nil => exact ⟨[], rfl⟩
  | cons x es ih =>
    obtain ⟨l, rfl⟩ := ih (fun y hy => h y (by simp [hy]))
    obtain ⟨h1, h2⟩ := h x (by simp)
    obtain ⟨a, q, e, ⟨u, rfl, hu⟩, b, q', rfl, ⟨v, rfl, hv⟩, rfl⟩ := h2
    rw [e] at h1
    simp only [ofLeaves, if_true, Option.some.injEq] at h1
    exact ⟨⟨u, v⟩ :: l, by rw [← h1]; rfl⟩

theorem hasV_PtS {r : PV} (h : hasV 6 22 r) : ∃ es, ∃ l : List P2, r = .sl es ∧ es = l.map P2.pv ∧ l.length ≤ 9223372036854775807 := by
  obtain ⟨es, h, hle, hes⟩ := h
  cases h
  obtain ⟨l, rfl⟩ := pts_of hes
  exact ⟨_, l, rfl, rfl, by simpa using hle⟩

theorem ints_of {es : List PV} (h : ∀ x ∈ es, ofLeaves false (leaves x) = some x ∧ hasL 5 3 (leaves x)) : ∃ l : List Int, es = l.map i64 := by
  induction es with
  | nil => exact ⟨[], rfl⟩
  | cons x es ih =>
    obtain ⟨l, rfl⟩ := ih (fun y hy => h y (by simp [hy]))
    obtain ⟨h1, u, e, hu⟩ := h x (by simp)
    rw [e] at h1
    simp only [ofLeaves, Bool.false_eq_true, if_false, Option.some.injEq] at h1
    exact ⟨u :: l, by rw [← h1]; rfl⟩

theorem hasV_IntS {r : PV} (h : hasV 6 24 r) : ∃ es, ∃ l : List Int, r = .sl es ∧ es = l.map i64 ∧ l.length ≤ 9223372036854775807 := by
  obtain ⟨es, h, hle, hes⟩ := h
  cases h
  obtain ⟨l, rfl⟩ := ints_of hes
  exact ⟨_, l, rfl, rfl, by simpa using hle⟩

/-- What is left of a size. -/
def szF (k : Nat) (n : Int) : Int := if (k : Int) ≤ n then n - k else -1

theorem c_laws_szPtS : Callable Try.prog 7 := ⟨_, Try.func7, rfl, by kernel_rfl⟩
theorem d_laws_szPtS {es : List PV} {n : Int} (h1 : es.length ≤ 9223372036854775807) (h2 : 0 ≤ n ∧ n ≤ 1048576) : Does Try.prog 7 [.sl es, i64 n] (.pv (i64 (szF es.length n))) [] := by
  refine does_of hT hM Try.func7 rfl (D := []) (by kernel_rfl) rfl rfl rfl (fun A K hA hK => ?_)
  cbv
  repeat' (first
    | (refine Ar.nn_ hA (by omega) ?_; cbv)
    | (refine Ar.toN_ hA (fun _ _ => ?_); cbv)
    | (refine Ar.notT_ hA ?_; cbv)
    | (refine Ar.notF_ hA ?_; cbv)
    | (refine Ar.lss_ hA (fun _ => ?_) (fun _ => ?_) <;> cbv)
    | (refine Ar.leq_ hA (fun _ => ?_) (fun _ => ?_) <;> cbv)
    | (refine Ar.gtr_ hA (fun _ => ?_) (fun _ => ?_) <;> cbv)
    | (refine Ar.geq_ hA (fun _ => ?_) (fun _ => ?_) <;> cbv)
    | (refine Ar.eql_ hA (fun _ => ?_) (fun _ => ?_) <;> cbv)
    | (refine Ar.neq_ hA (fun _ => ?_) (fun _ => ?_) <;> cbv)
    | (refine Ar.add_ hA (by omega) (fun _ _ => ?_); cbv)
    | (refine Ar.sub_ hA (by omega) (fun _ _ => ?_); cbv)
    | (refine Ar.neg_ hA (by omega) (fun _ _ => ?_); cbv)
    | (refine Ar.mulB hA 2000 2000 (by omega) (by omega) (by omega) (fun _ _ _ _ => ?_); cbv)
    | (refine Ar.mulB hA 3000000000 3000000000 (by omega) (by omega) (by omega) (fun _ _ _ _ => ?_); cbv)
    | (refine Ar.nz_ hA (by omega) ?_; cbv)
    | (refine Ar.rem_ hA (by omega) (fun _ _ => ?_); cbv)
    | (refine Ar.quo_ hA (by omega) (fun _ _ => ?_); cbv)
    | (refine Ar.mx_ hA (fun _ _ => ?_); cbv)
    | (refine Ar.mn_ hA (fun _ _ => ?_); cbv)
    | (refine Ar.len_ hA (fun _ _ _ => ?_); cbv)
    | (refine Ar.lenN_ hA (fun _ _ => ?_); cbv)
    | (refine Ar.bneq_ hA (fun _ => ?_) (fun _ => ?_) <;> cbv)
    | (refine Ar.beq_ hA (fun _ => ?_) (fun _ => ?_) <;> cbv)
    | (refine Ar.ofN_ hA (fun _ _ _ => ?_); cbv)
)
  all_goals exact hK _ _ (by congr 3; unfold szF; (try split) <;> omega) rfl

theorem c_laws_toPtS : Callable Try.prog 9 := ⟨_, Try.func9, rfl, by kernel_rfl⟩
theorem d_laws_toPtS {es : List PV} {l : List P2} (hes : es = l.map P2.pv) (hb : l.length ≤ 1048576) : Does Try.prog 9 [.sl es] (.row es 2 .free) [] := by
  refine does_of hT hM Try.func9 rfl (D := []) (by kernel_rfl) rfl rfl rfl (fun A K hA hK => ?_)
  have hlen : es.length = l.length := by simp [hes]
  cbv
  refine Ar.len_ hA (fun n hn hn' => ?_)
  cbv
  refine Ar.nn_ hA hn ?_
  cbv
  refine Ar.toN_ hA (fun m hm => ?_)
  cbv
  refine Ar.fits_ hA (by omega) ?_
  cbv
  refine Ar.rep_ hA (fun r0 hr0 => ?_)
  cbv
  refine Ar.loop_ hA (α := Int × List PV) (fun x => (n - x.1).toNat) (fun (i, r) => 0 ≤ i ∧ i ≤ n ∧ r = es.take i.toNat ++ List.replicate (m - i.toNat) (pt 0 0)) 23 (fun (i, r) => [(0, .pv (.sl es) []), (3, .own 7 none), (4, .pv (i64 i) [])]) (fun (i, r) => [(7, some (.row r 2 .free false))]) (0, r0) ⟨rfl, ⟨rfl, rfl, rfl, trivial⟩, rfl, trivial⟩ ⟨by omega, by omega, by rw [hr0]; simp⟩ ?_
  intro ⟨i, r⟩ s f ⟨h1, h2, h3⟩
  cbv
  refine Ar.len_ hA (fun n2 hn2 hn2' => ?_)
  cbv
  refine Ar.lss_ hA (fun h => ?_) (fun h => ?_)
  · cbv
    refine Ar.nn_ hA (by omega) ?_
    cbv
    refine Ar.toN_ hA (fun j hj => ?_)
    cbv
    obtain ⟨p, hp⟩ : ∃ p, l[j]? = some p := ⟨l[j]'(by omega), List.getElem?_eq_getElem _⟩
    refine Ar.idx_ hA (x := pt p.x p.y) (by simp [hes, hp, P2.pv]) ?_
    cbv
    refine Ar.call_ hA c_laws_toPt d_laws_toPt rfl ?_
    cbv
    refine Ar.nn_ hA h1 ?_
    cbv
    refine Ar.toN_ hA (fun j2 hj2 => ?_)
    cbv
    have hrl : r.length = m := by rw [h3]; simp; omega
    obtain ⟨y, hy⟩ : ∃ y, r[j2]? = some y := ⟨r[j2]'(by omega), List.getElem?_eq_getElem _⟩
    have hy0 : y = pt 0 0 := by
      rw [h3, List.getElem?_append_right (by simp; omega)] at hy
      simp only [List.getElem?_replicate] at hy
      split at hy
      · exact (Option.some.inj hy).symm
      · cases hy
    refine Ar.idx_ hA (x := pt 0 0) (by rw [hy, hy0]) ?_
    cbv
    refine Ar.idx_ hA (x := pt 0 0) (by rw [hy, hy0]) ?_
    cbv
    refine Ar.set_ hA (fun r' hr' => ?_)
    cbv
    refine Ar.add_ hA (by omega) (fun k hk => ?_)
    cbv
    refine ⟨(k, r'), (by show (n - k).toNat < (n - i).toNat; omega), ⟨by omega, by omega, ?_⟩, rfl, ⟨rfl, rfl, rfl, trivial⟩, rfl, trivial⟩
    rw [hr', h3, show k.toNat = j2 + 1 by omega, show i.toNat = j2 by omega]
    exact fill_step (by omega) (by rw [show j2 = j by omega, hes]; simp [hp, P2.pv])
  · cbv
    refine hK _ _ ?_ rfl
    rw [h3, List.take_of_length_le (by omega), show m - i.toNat = 0 by omega]
    simp

theorem c_laws_eqPt : Callable Try.prog 36 := ⟨_, Try.func36, rfl, by kernel_rfl⟩
theorem d_laws_eqPt {ax ay bx b_y : Int} : Does Try.prog 36 [pt ax ay, pt bx b_y] (.pv (bl (decide ((⟨ax, ay⟩ : P2) = ⟨bx, b_y⟩)))) [] := by
  refine does_of hT hM Try.func36 rfl (D := []) (by kernel_rfl) rfl rfl rfl (fun A K hA hK => ?_)
  cbv
  repeat' (first
    | (refine Ar.nn_ hA (by omega) ?_; cbv)
    | (refine Ar.toN_ hA (fun _ _ => ?_); cbv)
    | (refine Ar.notT_ hA ?_; cbv)
    | (refine Ar.notF_ hA ?_; cbv)
    | (refine Ar.lss_ hA (fun _ => ?_) (fun _ => ?_) <;> cbv)
    | (refine Ar.leq_ hA (fun _ => ?_) (fun _ => ?_) <;> cbv)
    | (refine Ar.gtr_ hA (fun _ => ?_) (fun _ => ?_) <;> cbv)
    | (refine Ar.geq_ hA (fun _ => ?_) (fun _ => ?_) <;> cbv)
    | (refine Ar.eql_ hA (fun _ => ?_) (fun _ => ?_) <;> cbv)
    | (refine Ar.neq_ hA (fun _ => ?_) (fun _ => ?_) <;> cbv)
    | (refine Ar.add_ hA (by omega) (fun _ _ => ?_); cbv)
    | (refine Ar.sub_ hA (by omega) (fun _ _ => ?_); cbv)
    | (refine Ar.neg_ hA (by omega) (fun _ _ => ?_); cbv)
    | (refine Ar.mulB hA 2000 2000 (by omega) (by omega) (by omega) (fun _ _ _ _ => ?_); cbv)
    | (refine Ar.mulB hA 3000000000 3000000000 (by omega) (by omega) (by omega) (fun _ _ _ _ => ?_); cbv)
    | (refine Ar.nz_ hA (by omega) ?_; cbv)
    | (refine Ar.rem_ hA (by omega) (fun _ _ => ?_); cbv)
    | (refine Ar.quo_ hA (by omega) (fun _ _ => ?_); cbv)
    | (refine Ar.mx_ hA (fun _ _ => ?_); cbv)
    | (refine Ar.mn_ hA (fun _ _ => ?_); cbv)
    | (refine Ar.len_ hA (fun _ _ _ => ?_); cbv)
    | (refine Ar.lenN_ hA (fun _ _ => ?_); cbv)
    | (refine Ar.bneq_ hA (fun _ => ?_) (fun _ => ?_) <;> cbv)
    | (refine Ar.beq_ hA (fun _ => ?_) (fun _ => ?_) <;> cbv)
    | (refine Ar.ofN_ hA (fun _ _ _ => ?_); cbv)
)
  all_goals exact hK _ _ (by simp_all) rfl

theorem take_all {α : Type} {l l' : List α} (hl : l.length = l'.length) {i : Nat} (h : l.take i = l'.take i) (hi : l.length ≤ i) : l = l' := by
  rwa [List.take_of_length_le hi, List.take_of_length_le (by omega)] at h
theorem take_next {α : Type} {l l' : List α} {j : Nat} {p : α} (h : l.take j = l'.take j) (hp : l[j]? = some p) (hp' : l'[j]? = some p) : l.take (j + 1) = l'.take (j + 1) := by
  rw [List.take_add_one, List.take_add_one, h, hp, hp']

theorem c_laws_eqPtS : Callable Try.prog 12 := ⟨_, Try.func12, rfl, by kernel_rfl⟩
theorem d_laws_eqPtS {es es' : List PV} {l l' : List P2} (hes : es = l.map P2.pv) (hes' : es' = l'.map P2.pv) (hb : l.length ≤ 1048576) : Does Try.prog 12 [.sl es, .sl es'] (.pv (bl (decide (l = l')))) [] := by
  refine does_of hT hM Try.func12 rfl (D := []) (by kernel_rfl) rfl rfl rfl (fun A K hA hK => ?_)
  have hlen : es.length = l.length := by simp [hes]
  have hlen' : es'.length = l'.length := by simp [hes']
  cbv
  refine Ar.len_ hA (fun n hn hn' => ?_)
  cbv
  refine Ar.len_ hA (fun n' hm hm' => ?_)
  cbv
  refine Ar.neq_ hA (fun h => ?_) (fun h => ?_)
  · cbv
    have : l ≠ l' := fun e => by subst e; omega
    exact hK _ _ (by simp [this]) rfl
  cbv
  refine Ar.loop_ hA (α := Int) (fun i => (n - i).toNat) (fun i => 0 ≤ i ∧ i ≤ n ∧ l.take i.toNat = l'.take i.toNat) 27 (fun i => [(0, .pv (.sl es) []), (1, .pv (.sl es') []), (5, .pv (i64 i) [])]) (fun _ => []) 0 ⟨rfl, ⟨rfl, rfl, rfl, trivial⟩, trivial⟩ ⟨by omega, by omega, by simp⟩ ?_
  intro i s f ⟨h1, h2, h3⟩
  cbv
  refine Ar.len_ hA (fun n2 hn2 hn2' => ?_)
  cbv
  refine Ar.lss_ hA (fun h => ?_) (fun h => ?_)
  · cbv
    refine Ar.nn_ hA (by omega) ?_
    cbv
    refine Ar.toN_ hA (fun j hj => ?_)
    cbv
    obtain ⟨p, hp⟩ : ∃ p, l[j]? = some p := ⟨l[j]'(by omega), List.getElem?_eq_getElem _⟩
    refine Ar.idx_ hA (x := pt p.x p.y) (by simp [hes, hp, P2.pv]) ?_
    cbv
    refine Ar.nn_ hA (by omega) ?_
    cbv
    refine Ar.toN_ hA (fun j' hj' => ?_)
    cbv
    obtain ⟨p', hp'⟩ : ∃ p, l'[j']? = some p := ⟨l'[j']'(by omega), List.getElem?_eq_getElem _⟩
    refine Ar.idx_ hA (x := pt p'.x p'.y) (by simp [hes', hp', P2.pv]) ?_
    cbv
    have hjj : j' = j := by omega
    refine Ar.callT hA c_laws_eqPt d_laws_eqPt rfl (fun hb => ?_) (fun hb => ?_)
    · have hpp : p = p' := of_decide_eq_true hb
      cbv
      refine Ar.notT_ hA ?_
      cbv
      refine Ar.add_ hA (by omega) (fun k hk => ?_)
      cbv
      refine ⟨k, by omega, ⟨by omega, by omega, ?_⟩, rfl, ⟨rfl, rfl, rfl, trivial⟩, trivial⟩
      rw [show k.toNat = j + 1 by omega]
      exact take_next (by rw [hj]; exact h3) hp (by rw [hpp, ← hjj]; exact hp')
    · have hpp : p ≠ p' := of_decide_eq_false hb
      cbv
      refine Ar.notF_ hA ?_
      cbv
      have : l ≠ l' := fun e => hpp (by subst e; rw [hjj, hp] at hp'; exact Option.some.inj hp')
      exact hK _ _ (by simp [this]) rfl
  · cbv
    have : l = l' := take_all (by omega) h3 (by omega)
    exact hK _ _ (by simp [this]) rfl

/-! WidestIn -/

def d2 (a b : P2) : Int := (a.x - b.x) * (a.x - b.x) + (a.y - b.y) * (a.y - b.y)
def isCloudF (l : List P2) : Bool := decide (1 ≤ l.length) && decide (l.length ≤ 16) && l.all P2.ok
def isWayF (l : List P2) : Bool := decide (3 ≤ l.length) && decide (l.length ≤ 12) && l.all P2.ok
def widest (l : List P2) : Int := l.foldl (fun m a => l.foldl (fun m b => max m (d2 a b)) m) 0

theorem isCloudF_iff {l : List P2} : isCloudF l = true ↔ 1 ≤ l.length ∧ l.length ≤ 16 ∧ ∀ p ∈ l, p.ok = true := by
  simp [isCloudF, and_assoc]
theorem isWayF_iff {l : List P2} : isWayF l = true ↔ 3 ≤ l.length ∧ l.length ≤ 12 ∧ ∀ p ∈ l, p.ok = true := by
  simp [isWayF, and_assoc]

theorem c_spec_l8Way : Callable Try.prog 41 := ⟨_, Try.func41, rfl, by kernel_rfl⟩
theorem d_spec_l8Way {es : List PV} {l : List P2} (hes : es = l.map P2.pv) (hb : l.length ≤ 1048576) : Does Try.prog 41 [.sl es] (.pv (bl (isWayF l))) [] := by
  refine does_of hT hM Try.func41 rfl (D := []) (by kernel_rfl) rfl rfl rfl (fun A K hA hK => ?_)
  have hlen : es.length = l.length := by simp [hes]
  cbv
  repeat' (first
    | (refine Ar.nn_ hA (by omega) ?_; cbv)
    | (refine Ar.toN_ hA (fun _ _ => ?_); cbv)
    | (refine Ar.notT_ hA ?_; cbv)
    | (refine Ar.notF_ hA ?_; cbv)
    | (refine Ar.lss_ hA (fun _ => ?_) (fun _ => ?_) <;> cbv)
    | (refine Ar.leq_ hA (fun _ => ?_) (fun _ => ?_) <;> cbv)
    | (refine Ar.gtr_ hA (fun _ => ?_) (fun _ => ?_) <;> cbv)
    | (refine Ar.geq_ hA (fun _ => ?_) (fun _ => ?_) <;> cbv)
    | (refine Ar.eql_ hA (fun _ => ?_) (fun _ => ?_) <;> cbv)
    | (refine Ar.neq_ hA (fun _ => ?_) (fun _ => ?_) <;> cbv)
    | (refine Ar.add_ hA (by omega) (fun _ _ => ?_); cbv)
    | (refine Ar.sub_ hA (by omega) (fun _ _ => ?_); cbv)
    | (refine Ar.neg_ hA (by omega) (fun _ _ => ?_); cbv)
    | (refine Ar.mulB hA 2000 2000 (by omega) (by omega) (by omega) (fun _ _ _ _ => ?_); cbv)
    | (refine Ar.mulB hA 3000000000 3000000000 (by omega) (by omega) (by omega) (fun _ _ _ _ => ?_); cbv)
    | (refine Ar.nz_ hA (by omega) ?_; cbv)
    | (refine Ar.rem_ hA (by omega) (fun _ _ => ?_); cbv)
    | (refine Ar.quo_ hA (by omega) (fun _ _ => ?_); cbv)
    | (refine Ar.mx_ hA (fun _ _ => ?_); cbv)
    | (refine Ar.mn_ hA (fun _ _ => ?_); cbv)
    | (refine Ar.len_ hA (fun _ _ _ => ?_); cbv)
    | (refine Ar.lenN_ hA (fun _ _ => ?_); cbv)
    | (refine Ar.bneq_ hA (fun _ => ?_) (fun _ => ?_) <;> cbv)
    | (refine Ar.beq_ hA (fun _ => ?_) (fun _ => ?_) <;> cbv)
    | (refine Ar.ofN_ hA (fun _ _ _ => ?_); cbv)
    | (refine Ar.callT hA c_spec_l1In (d_spec_l1In) rfl (fun _ => ?_) (fun _ => ?_) <;> cbv)
    | (refine Ar.callT hA c_spec_l8Pts (d_spec_l8Pts hes hb) rfl (fun _ => ?_) (fun _ => ?_) <;> cbv))
  all_goals exact hK _ _ (by simp_all [isWayF]; try omega) rfl

theorem c_impl_isWay : Callable Try.prog 47 := ⟨_, Try.func47, rfl, by kernel_rfl⟩
theorem d_impl_isWay {es : List PV} {l : List P2} (hes : es = l.map P2.pv) (hb : l.length ≤ 1048576) : Does Try.prog 47 [.sl es] (.pv (bl (isWayF l))) [] := by
  refine does_of hT hM Try.func47 rfl (D := []) (by kernel_rfl) rfl rfl rfl (fun A K hA hK => ?_)
  have hlen : es.length = l.length := by simp [hes]
  cbv
  repeat' (first
    | (refine Ar.nn_ hA (by omega) ?_; cbv)
    | (refine Ar.toN_ hA (fun _ _ => ?_); cbv)
    | (refine Ar.notT_ hA ?_; cbv)
    | (refine Ar.notF_ hA ?_; cbv)
    | (refine Ar.lss_ hA (fun _ => ?_) (fun _ => ?_) <;> cbv)
    | (refine Ar.leq_ hA (fun _ => ?_) (fun _ => ?_) <;> cbv)
    | (refine Ar.gtr_ hA (fun _ => ?_) (fun _ => ?_) <;> cbv)
    | (refine Ar.geq_ hA (fun _ => ?_) (fun _ => ?_) <;> cbv)
    | (refine Ar.eql_ hA (fun _ => ?_) (fun _ => ?_) <;> cbv)
    | (refine Ar.neq_ hA (fun _ => ?_) (fun _ => ?_) <;> cbv)
    | (refine Ar.add_ hA (by omega) (fun _ _ => ?_); cbv)
    | (refine Ar.sub_ hA (by omega) (fun _ _ => ?_); cbv)
    | (refine Ar.neg_ hA (by omega) (fun _ _ => ?_); cbv)
    | (refine Ar.mulB hA 2000 2000 (by omega) (by omega) (by omega) (fun _ _ _ _ => ?_); cbv)
    | (refine Ar.mulB hA 3000000000 3000000000 (by omega) (by omega) (by omega) (fun _ _ _ _ => ?_); cbv)
    | (refine Ar.nz_ hA (by omega) ?_; cbv)
    | (refine Ar.rem_ hA (by omega) (fun _ _ => ?_); cbv)
    | (refine Ar.quo_ hA (by omega) (fun _ _ => ?_); cbv)
    | (refine Ar.mx_ hA (fun _ _ => ?_); cbv)
    | (refine Ar.mn_ hA (fun _ _ => ?_); cbv)
    | (refine Ar.len_ hA (fun _ _ _ => ?_); cbv)
    | (refine Ar.lenN_ hA (fun _ _ => ?_); cbv)
    | (refine Ar.bneq_ hA (fun _ => ?_) (fun _ => ?_) <;> cbv)
    | (refine Ar.beq_ hA (fun _ => ?_) (fun _ => ?_) <;> cbv)
    | (refine Ar.ofN_ hA (fun _ _ _ => ?_); cbv)
    | (refine Ar.callT hA c_impl_within (d_impl_within) rfl (fun _ => ?_) (fun _ => ?_) <;> cbv)
    | (refine Ar.callT hA c_impl_arePts (d_impl_arePts hes hb) rfl (fun _ => ?_) (fun _ => ?_) <;> cbv))
  all_goals exact hK _ _ (by simp_all [isWayF]; try omega) rfl

end Go.VAI
