/- The small laws on points and windows. -/
import Derived.Test.YtidbgfknaopkkaaB
namespace Go.VAI
open Go.Proofs
set_option maxRecDepth 100000
set_option maxHeartbeats 8000000

abbrev InR (x : Int) : Prop := -9223372036854775808 ≤ x ∧ x ≤ 9223372036854775807

theorem hasV_Int {r : PV} (h : hasV 6 3 r) : ∃ x, r = i64 x ∧ InR x := by
  obtain ⟨x, h, hx⟩ := h
  cases h
  exact ⟨x, rfl, bounds_i64 hx⟩

theorem hasV_Bool {r : PV} (h : hasV 6 4 r) : ∃ x, r = bl x ∧ True := by
  obtain ⟨x, h⟩ := h
  cases h
  exact ⟨x, rfl, trivial⟩

theorem hasV_Pt {r : PV} (h : hasV 6 51 r) : ∃ x y, r = pt x y ∧ InR x ∧ InR y := by
  obtain ⟨ls, rfl, a, q, rfl, ⟨x, rfl, hx⟩, b, q', rfl, ⟨y, rfl, hy⟩, rfl⟩ := h
  exact ⟨x, y, rfl, bounds_i64 hx, bounds_i64 hy⟩


def okP3 (a b c : P2) : Bool := [a, b, c].all P2.ok
def okP4 (a b c d : P2) : Bool := [a, b, c, d].all P2.ok
theorem okP3_iff {a b c : P2} (h : okP3 a b c = true) : (-1000 ≤ a.x ∧ a.x ≤ 1000 ∧ -1000 ≤ a.y ∧ a.y ≤ 1000) ∧ (-1000 ≤ b.x ∧ b.x ≤ 1000 ∧ -1000 ≤ b.y ∧ b.y ≤ 1000) ∧ (-1000 ≤ c.x ∧ c.x ≤ 1000 ∧ -1000 ≤ c.y ∧ c.y ≤ 1000) := by
  simpa only [okP3, List.all_cons, List.all_nil, Bool.and_true, Bool.and_eq_true, P2.ok_iff] using h
theorem okP4_iff {a b c d : P2} (h : okP4 a b c d = true) : (-1000 ≤ a.x ∧ a.x ≤ 1000 ∧ -1000 ≤ a.y ∧ a.y ≤ 1000) ∧ (-1000 ≤ b.x ∧ b.x ≤ 1000 ∧ -1000 ≤ b.y ∧ b.y ≤ 1000) ∧ (-1000 ≤ c.x ∧ c.x ≤ 1000 ∧ -1000 ≤ c.y ∧ c.y ≤ 1000) ∧ (-1000 ≤ d.x ∧ d.x ≤ 1000 ∧ -1000 ≤ d.y ∧ d.y ≤ 1000) := by
  simpa only [okP4, List.all_cons, List.all_nil, Bool.and_true, Bool.and_eq_true, P2.ok_iff] using h

/-! GoodPt, GoodWindow -/

def okW (x y z w : Int) : Bool := decide (-20 ≤ x ∧ x ≤ 20 ∧ -20 ≤ y ∧ y ≤ 20 ∧ 1 ≤ z ∧ z ≤ 8 ∧ 1 ≤ w ∧ w ≤ 8)

/-! Orient -/

/-! OnSegment -/

/-! LessPt -/

def lexLess (a b : P2) : Bool := decide (a.x < b.x) || (decide (a.x = b.x) && decide (a.y < b.y))

theorem c_spec_l10Less : Callable Try.prog 98 := ⟨_, Try.func98, rfl, by kernel_rfl⟩
theorem d_spec_l10Less {ax ay bx b_y : Int} : Does Try.prog 98 [pt ax ay, pt bx b_y] (.pv (bl (lexLess ⟨ax, ay⟩ ⟨bx, b_y⟩))) [] := by
  refine does_of hT hM Try.func98 rfl (D := []) (by kernel_rfl) rfl rfl rfl (fun A K hA hK => ?_)
  cbv
  repeat' (first
    | (refine Ar.nn_ hA (by omega) ?_; cbv)
    | (refine Ar.toN_ hA (fun _ _ => ?_); cbv)
    | (refine Ar.notT_ hA ?_; cbv)
    | (refine Ar.notF_ hA ?_; cbv)
    | (refine Ar.lss_ hA (fun _ => ?_) (fun _ => ?_) <;> cbv)
    | (refine Ar.leq_ hA (fun _ => ?_) (fun _ => ?_) <;> cbv)
    | (refine Ar.gtr_ hA (fun _ => ?_) (fun _ => ?_) <;> cbv)
    | (refine Ar.geq_ hA (fun _ => ?_) (fun _ => ?_) <;> cbv)
    | (refine Ar.eql_ hA (fun _ => ?_) (fun _ => ?_) <;> cbv)
    | (refine Ar.neq_ hA (fun _ => ?_) (fun _ => ?_) <;> cbv)
    | (refine Ar.add_ hA (by omega) (fun _ _ => ?_); cbv)
    | (refine Ar.sub_ hA (by omega) (fun _ _ => ?_); cbv)
    | (refine Ar.neg_ hA (by omega) (fun _ _ => ?_); cbv)
    | (refine Ar.mulB hA 2000 2000 (by omega) (by omega) (by omega) (fun _ _ _ _ => ?_); cbv)
    | (refine Ar.mulB hA 3000000000 3000000000 (by omega) (by omega) (by omega) (fun _ _ _ _ => ?_); cbv)
    | (refine Ar.nz_ hA (by omega) ?_; cbv)
    | (refine Ar.rem_ hA (by omega) (fun _ _ => ?_); cbv)
    | (refine Ar.quo_ hA (by omega) (fun _ _ => ?_); cbv)
    | (refine Ar.mx_ hA (fun _ _ => ?_); cbv)
    | (refine Ar.mn_ hA (fun _ _ => ?_); cbv)
    | (refine Ar.len_ hA (fun _ _ _ => ?_); cbv)
    | (refine Ar.lenN_ hA (fun _ _ => ?_); cbv)
    | (refine Ar.bneq_ hA (fun _ => ?_) (fun _ => ?_) <;> cbv)
    | (refine Ar.beq_ hA (fun _ => ?_) (fun _ => ?_) <;> cbv)
    | (refine Ar.ofN_ hA (fun _ _ _ => ?_); cbv)
)
  all_goals exact hK _ _ (by simp [lexLess]; omega) rfl

theorem c_cmp_isNaN_int : Callable Try.prog 134 := ⟨_, Try.func134, rfl, by kernel_rfl⟩
theorem d_cmp_isNaN_int {x : Int} : Does Try.prog 134 [i64 x] (.pv (bl false)) [] := by
  refine does_of hT hM Try.func134 rfl (D := []) (by kernel_rfl) rfl rfl rfl (fun A K hA hK => ?_)
  cbv
  repeat' (first
    | (refine Ar.nn_ hA (by omega) ?_; cbv)
    | (refine Ar.toN_ hA (fun _ _ => ?_); cbv)
    | (refine Ar.notT_ hA ?_; cbv)
    | (refine Ar.notF_ hA ?_; cbv)
    | (refine Ar.lss_ hA (fun _ => ?_) (fun _ => ?_) <;> cbv)
    | (refine Ar.leq_ hA (fun _ => ?_) (fun _ => ?_) <;> cbv)
    | (refine Ar.gtr_ hA (fun _ => ?_) (fun _ => ?_) <;> cbv)
    | (refine Ar.geq_ hA (fun _ => ?_) (fun _ => ?_) <;> cbv)
    | (refine Ar.eql_ hA (fun _ => ?_) (fun _ => ?_) <;> cbv)
    | (refine Ar.neq_ hA (fun _ => ?_) (fun _ => ?_) <;> cbv)
    | (refine Ar.add_ hA (by omega) (fun _ _ => ?_); cbv)
    | (refine Ar.sub_ hA (by omega) (fun _ _ => ?_); cbv)
    | (refine Ar.neg_ hA (by omega) (fun _ _ => ?_); cbv)
    | (refine Ar.mulB hA 2000 2000 (by omega) (by omega) (by omega) (fun _ _ _ _ => ?_); cbv)
    | (refine Ar.mulB hA 3000000000 3000000000 (by omega) (by omega) (by omega) (fun _ _ _ _ => ?_); cbv)
    | (refine Ar.nz_ hA (by omega) ?_; cbv)
    | (refine Ar.rem_ hA (by omega) (fun _ _ => ?_); cbv)
    | (refine Ar.quo_ hA (by omega) (fun _ _ => ?_); cbv)
    | (refine Ar.mx_ hA (fun _ _ => ?_); cbv)
    | (refine Ar.mn_ hA (fun _ _ => ?_); cbv)
    | (refine Ar.len_ hA (fun _ _ _ => ?_); cbv)
    | (refine Ar.lenN_ hA (fun _ _ => ?_); cbv)
    | (refine Ar.bneq_ hA (fun _ => ?_) (fun _ => ?_) <;> cbv)
    | (refine Ar.beq_ hA (fun _ => ?_) (fun _ => ?_) <;> cbv)
    | (refine Ar.ofN_ hA (fun _ _ _ => ?_); cbv)
)
  all_goals first | exact hK _ _ rfl rfl | (exfalso; simp_all; done)

theorem c_cmp_Compare_int : Callable Try.prog 121 := ⟨_, Try.func121, rfl, by kernel_rfl⟩
theorem d_cmp_Compare_int {x y : Int} (_ : -4611686018427387904 ≤ x ∧ x ≤ 4611686018427387904) (_ : -4611686018427387904 ≤ y ∧ y ≤ 4611686018427387904) : Does Try.prog 121 [i64 x, i64 y] (.pv (i64 (sgn (x - y)))) [] := by
  refine does_of hT hM Try.func121 rfl (D := []) (by kernel_rfl) rfl rfl rfl (fun A K hA hK => ?_)
  cbv
  refine Ar.callB hA c_cmp_isNaN_int d_cmp_isNaN_int rfl (fun r hr => ?_)
  subst hr
  cbv
  refine Ar.callB hA c_cmp_isNaN_int d_cmp_isNaN_int rfl (fun r hr => ?_)
  subst hr
  cbv
  repeat' (first
    | (refine Ar.nn_ hA (by omega) ?_; cbv)
    | (refine Ar.toN_ hA (fun _ _ => ?_); cbv)
    | (refine Ar.notT_ hA ?_; cbv)
    | (refine Ar.notF_ hA ?_; cbv)
    | (refine Ar.lss_ hA (fun _ => ?_) (fun _ => ?_) <;> cbv)
    | (refine Ar.leq_ hA (fun _ => ?_) (fun _ => ?_) <;> cbv)
    | (refine Ar.gtr_ hA (fun _ => ?_) (fun _ => ?_) <;> cbv)
    | (refine Ar.geq_ hA (fun _ => ?_) (fun _ => ?_) <;> cbv)
    | (refine Ar.eql_ hA (fun _ => ?_) (fun _ => ?_) <;> cbv)
    | (refine Ar.neq_ hA (fun _ => ?_) (fun _ => ?_) <;> cbv)
    | (refine Ar.add_ hA (by omega) (fun _ _ => ?_); cbv)
    | (refine Ar.sub_ hA (by omega) (fun _ _ => ?_); cbv)
    | (refine Ar.neg_ hA (by omega) (fun _ _ => ?_); cbv)
    | (refine Ar.mulB hA 2000 2000 (by omega) (by omega) (by omega) (fun _ _ _ _ => ?_); cbv)
    | (refine Ar.mulB hA 3000000000 3000000000 (by omega) (by omega) (by omega) (fun _ _ _ _ => ?_); cbv)
    | (refine Ar.nz_ hA (by omega) ?_; cbv)
    | (refine Ar.rem_ hA (by omega) (fun _ _ => ?_); cbv)
    | (refine Ar.quo_ hA (by omega) (fun _ _ => ?_); cbv)
    | (refine Ar.mx_ hA (fun _ _ => ?_); cbv)
    | (refine Ar.mn_ hA (fun _ _ => ?_); cbv)
    | (refine Ar.len_ hA (fun _ _ _ => ?_); cbv)
    | (refine Ar.lenN_ hA (fun _ _ => ?_); cbv)
    | (refine Ar.bneq_ hA (fun _ => ?_) (fun _ => ?_) <;> cbv)
    | (refine Ar.beq_ hA (fun _ => ?_) (fun _ => ?_) <;> cbv)
    | (refine Ar.ofN_ hA (fun _ _ _ => ?_); cbv)
)
  all_goals exact hK _ _ (by simp [sgn]; omega) rfl

def orI (l : List Int) : Int := (l.find? (fun x => decide (x ≠ 0))).getD 0

theorem c_cmp_Or_int : Callable Try.prog 120 := ⟨_, Try.func120, rfl, by kernel_rfl⟩
theorem d_cmp_Or_int {es : List PV} {x y : Int} (hes : es = [i64 x, i64 y]) : Does Try.prog 120 [.sl es] (.pv (i64 (if x = 0 then y else x))) [] := by
  refine does_of hT hM Try.func120 rfl (D := []) (by kernel_rfl) rfl rfl rfl (fun A K hA hK => ?_)
  have hlen : es.length = 2 := by simp [hes]
  cbv
  refine Ar.len_ hA (fun n hn hn' => ?_)
  cbv
  refine Ar.loop_ hA (α := Int) (fun i => (n - i).toNat) (fun i => 0 ≤ i ∧ i ≤ n ∧ (i = 1 → x = 0) ∧ (i = 2 → x = 0 ∧ y = 0)) 18 (fun i => [(3, .pv (i64 0) []), (6, .pv (.sl es) []), (7, .pv (i64 n) []), (8, .pv (i64 i) [])]) (fun _ => []) 0 ⟨rfl, ⟨rfl, rfl, rfl, rfl, trivial⟩, trivial⟩ ⟨by omega, by omega, by omega, by omega⟩ ?_
  intro i s f ⟨h1, h2, h3, h4⟩
  cbv
  refine Ar.lss_ hA (fun h => ?_) (fun h => ?_)
  · cbv
    refine Ar.nn_ hA h1 ?_
    cbv
    refine Ar.toN_ hA (fun j hj => ?_)
    cbv
    rcases (show j = 0 ∨ j = 1 by omega) with hj0 | hj1
    · refine Ar.idx_ hA (x := i64 x) (by subst hj0; simp [hes]) ?_
      cbv
      refine Ar.neq_ hA (fun h => ?_) (fun h => ?_)
      · cbv
        exact hK _ _ (by rw [if_neg h]) rfl
      · cbv
        refine Ar.add_ hA (by omega) (fun k hk => ?_)
        cbv
        exact ⟨k, by omega, ⟨by omega, by omega, fun _ => h, by omega⟩, rfl, ⟨rfl, rfl, rfl, rfl, trivial⟩, trivial⟩
    · have hx0 := h3 (by omega)
      refine Ar.idx_ hA (x := i64 y) (by subst hj1; simp [hes]) ?_
      cbv
      refine Ar.neq_ hA (fun h => ?_) (fun h => ?_)
      · cbv
        exact hK _ _ (by rw [if_pos hx0]) rfl
      · cbv
        refine Ar.add_ hA (by omega) (fun k hk => ?_)
        cbv
        exact ⟨k, by omega, ⟨by omega, by omega, fun _ => hx0, fun _ => ⟨hx0, h⟩⟩, rfl, ⟨rfl, rfl, rfl, rfl, trivial⟩, trivial⟩
  · cbv
    have := h4 (by omega)
    exact hK _ _ (by rw [if_pos this.1, this.2]) rfl

def cmpP (a b : P2) : Int := if sgn (a.x - b.x) = 0 then sgn (a.y - b.y) else sgn (a.x - b.x)

theorem c_impl_comparePts : Callable Try.prog 103 := ⟨_, Try.func103, rfl, by kernel_rfl⟩
theorem d_impl_comparePts {ax ay bx b_y : Int} (ha : -1000 ≤ ax ∧ ax ≤ 1000 ∧ -1000 ≤ ay ∧ ay ≤ 1000) (hb : -1000 ≤ bx ∧ bx ≤ 1000 ∧ -1000 ≤ b_y ∧ b_y ≤ 1000) : Does Try.prog 103 [pt ax ay, pt bx b_y] (.pv (i64 (cmpP ⟨ax, ay⟩ ⟨bx, b_y⟩))) [] := by
  refine does_of hT hM Try.func103 rfl (D := []) (by kernel_rfl) rfl rfl rfl (fun A K hA hK => ?_)
  cbv
  repeat' (first
    | (refine Ar.nn_ hA (by omega) ?_; cbv)
    | (refine Ar.toN_ hA (fun _ _ => ?_); cbv)
    | (refine Ar.notT_ hA ?_; cbv)
    | (refine Ar.notF_ hA ?_; cbv)
    | (refine Ar.lss_ hA (fun _ => ?_) (fun _ => ?_) <;> cbv)
    | (refine Ar.leq_ hA (fun _ => ?_) (fun _ => ?_) <;> cbv)
    | (refine Ar.gtr_ hA (fun _ => ?_) (fun _ => ?_) <;> cbv)
    | (refine Ar.geq_ hA (fun _ => ?_) (fun _ => ?_) <;> cbv)
    | (refine Ar.eql_ hA (fun _ => ?_) (fun _ => ?_) <;> cbv)
    | (refine Ar.neq_ hA (fun _ => ?_) (fun _ => ?_) <;> cbv)
    | (refine Ar.add_ hA (by omega) (fun _ _ => ?_); cbv)
    | (refine Ar.sub_ hA (by omega) (fun _ _ => ?_); cbv)
    | (refine Ar.neg_ hA (by omega) (fun _ _ => ?_); cbv)
    | (refine Ar.mulB hA 2000 2000 (by omega) (by omega) (by omega) (fun _ _ _ _ => ?_); cbv)
    | (refine Ar.mulB hA 3000000000 3000000000 (by omega) (by omega) (by omega) (fun _ _ _ _ => ?_); cbv)
    | (refine Ar.nz_ hA (by omega) ?_; cbv)
    | (refine Ar.rem_ hA (by omega) (fun _ _ => ?_); cbv)
    | (refine Ar.quo_ hA (by omega) (fun _ _ => ?_); cbv)
    | (refine Ar.mx_ hA (fun _ _ => ?_); cbv)
    | (refine Ar.mn_ hA (fun _ _ => ?_); cbv)
    | (refine Ar.len_ hA (fun _ _ _ => ?_); cbv)
    | (refine Ar.lenN_ hA (fun _ _ => ?_); cbv)
    | (refine Ar.bneq_ hA (fun _ => ?_) (fun _ => ?_) <;> cbv)
    | (refine Ar.beq_ hA (fun _ => ?_) (fun _ => ?_) <;> cbv)
    | (refine Ar.ofN_ hA (fun _ _ _ => ?_); cbv)
    | (refine Ar.callS hA c_cmp_Compare_int (d_cmp_Compare_int (by omega) (by omega)) rfl (fun _ _ _ _ => ?_); cbv))
  refine Ar.callI hA c_cmp_Or_int (d_cmp_Or_int rfl) rfl (fun r hr => ?_)
  cbv
  exact hK _ _ (by subst_vars; rfl) rfl

theorem cmpP_lex (a b : P2) : decide (cmpP a b < 0) = lexLess a b := by
  unfold cmpP lexLess sgn
  rw [Bool.eq_iff_iff]
  simp only [decide_eq_true_eq, Bool.or_eq_true, Bool.and_eq_true]
  repeat' split
  all_goals omega

end Go.VAI
