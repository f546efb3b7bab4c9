import Derived.Test.YtialfhjffkoakaaGreatVe
import Derived.ChangeReads
import Derived.ChangeArms
import Derived.ChangeShapes
import Derived.ChangeOld
import Derived.ChangeCalls
import Derived.Carry
import Derived.SizedLaws
import Derived.OpenShut
namespace Go.VAI

/-! ### The rules by which a proof passes the operations that are not looked into -/

abbrev i64 (n : Int) : PV := .val (.int .i64 n)
abbrev bl (b : Bool) : PV := .val (.bool b)

def updL {α : Type} (f : Nat → α) : List (Nat × α) → Nat → α
  | [] => f
  | (k, v) :: l => upd (updL f l) k v

def atL {α : Type} (f : Nat → α) : List (Nat × α) → Prop
  | [] => True
  | (k, v) :: l => f k = v ∧ atL f l

/-- What is known of a state. -/
def At (n : Nat) (sl : List (Nat × Slot)) (fl : List (Nat × Option File)) (σ : St) : Prop := σ.n = n ∧ atL σ.slots sl ∧ atL σ.files fl

theorem atL_eq {α : Type} {f : Nat → α} : ∀ {l : List (Nat × α)}, atL f l → updL f l = f
  | [], _ => rfl
  | (k, v) :: l, h => by
    simp only [updL]
    rw [atL_eq h.2]
    funext j
    unfold upd
    split
    · rename_i e; rw [e]; exact h.1.symm
    · rfl

theorem At.eq {n : Nat} {sl : List (Nat × Slot)} {fl : List (Nat × Option File)} {σ : St} (h : At n sl fl σ) : σ = ⟨n, updL σ.slots sl, updL σ.files fl⟩ := by
  obtain ⟨n', s, f⟩ := σ
  obtain ⟨h1, h2, h3⟩ := h
  simp only at h1 h2 h3 ⊢
  rw [atL_eq h2, atL_eq h3, h1]

/-- The body of a function, told by its parts. -/
def abod (A : Ar) (D : List (Nat × List Nat)) (f : FuncId) (n : Nat) (ps : List Nat) (rv : List ResultVar) (c : Code) (args : List PV) (K : RS → List PV → Prop) : Prop :=
  if args.length ≤ n ∧ Nat.blt (inout f).length 2 ∧ (inout f).all (lentOk ps (ioSz f) args) then awp A D c (fun ex σ => match ex with
    | .exit _ => False
    | _ => (match resultS A σ rv with
      | some rs => if vwIn (inout f) args rs then outsS A σ args (ioDp f) (fun outs => K rs outs) (inout f) else False
      | none => False)) (start n ps (inout f) (ioSz f) (ioDp f) args) else False

theorem does_of {P : Program} (hT : TTok P) (hm : P.follows .mixedOrders = true) {f : FuncId} {fn : Func} {c : Code} {n : Nat} {ps : List Nat} {rv : List ResultVar} (hf : P.funcs[f]? = some fn) (hb : fn.body = some c) {D : List (Nat × List Nat)} (hdr : drawsOk D c = true)
    (h1 : fn.ntmps = n) (h2 : fn.params.toList = ps) (h3 : fn.results.toList = rv) {args : List PV} {rs : RS} {outs : List PV}
    (h : ∀ (A : Ar) (K : RS → List PV → Prop), stdA P = A → (∀ rs' outs', rs' = rs → outs' = outs → K rs' outs') → abod A D f n ps rv c args K) : Does P f args rs outs := by
  subst h1 h2 h3
  exact does_of_abody hT hm hf hb hdr (h _ (fun rs' outs' => rs' = rs ∧ outs' = outs) rfl (fun _ _ h1 h2 => ⟨h1, h2⟩))

/-- The sign of a number. -/
def sgn (n : Int) : Int := if n < 0 then -1 else if 0 < n then 1 else 0
theorem sgn_range (n : Int) : -1 ≤ sgn n ∧ sgn n ≤ 1 := by unfold sgn; split <;> (try split) <;> omega

theorem foldl_take {α β : Type} (f : β → α → β) (b : β) {l : List α} {j : Nat} {x : α} (h : l[j]? = some x) : (l.take (j + 1)).foldl f b = f ((l.take j).foldl f b) x := by
  rw [List.take_add_one, h]; simp

/-- A row that is filled from its beginning on. -/
theorem fill_step {α : Type} {l : List α} {n j : Nat} {z x : α} (hn : l.length = n) (h : l[j]? = some x) : (l.take j ++ List.replicate (n - j) z).set j x = l.take (j + 1) ++ List.replicate (n - (j + 1)) z := by
  have hj := (List.getElem?_eq_some_iff.1 h).1
  apply List.ext_getElem?
  intro k
  rw [List.getElem?_set]
  have hlt : (l.take j).length = j := by simp; omega
  have hlt' : (l.take (j + 1)).length = j + 1 := by simp; omega
  split
  · rename_i e
    subst e
    rw [if_pos (by simp; omega), List.getElem?_append_left (by omega), List.getElem?_take]
    simp [h]
  · rename_i e
    rcases Nat.lt_or_ge k j with hk | hk
    · rw [List.getElem?_append_left (by omega), List.getElem?_append_left (by omega)]
      simp [hk, Nat.lt_succ_of_lt hk]
    · rw [List.getElem?_append_right (by omega), List.getElem?_append_right (by omega), hlt, hlt']
      simp only [List.getElem?_replicate]
      by_cases hkn : k < n
      · rw [if_pos (by omega), if_pos (by omega)]
      · rw [if_neg (by omega), if_neg (by omega)]

/-- A row that is written over from its beginning on. -/
theorem over_step {α : Type} {L es : List α} {j : Nat} {y : α} (hl : es.length = L.length) (h : L[j]? = some y) : (L.take j ++ es.drop j).set j y = L.take (j + 1) ++ es.drop (j + 1) := by
  have hj := (List.getElem?_eq_some_iff.1 h).1
  apply List.ext_getElem?
  intro k
  have hlt : (L.take j).length = j := by simp; omega
  have hlt' : (L.take (j + 1)).length = j + 1 := by simp; omega
  rw [List.getElem?_set]
  split
  · rename_i e
    subst e
    rw [if_pos (by simp; omega), List.getElem?_append_left (by omega), List.getElem?_take]
    simp [h]
  · rename_i e
    rcases Nat.lt_or_ge k j with hk | hk
    · rw [List.getElem?_append_left (by omega), List.getElem?_append_left (by omega)]
      simp [hk, Nat.lt_succ_of_lt hk]
    · rw [List.getElem?_append_right (by omega), List.getElem?_append_right (by omega), hlt, hlt', List.getElem?_drop, List.getElem?_drop]
      congr 1; omega
theorem over_get {α : Type} {L es : List α} {j : Nat} (hl : es.length = L.length) (h : j < es.length) : (L.take j ++ es.drop j)[j]? = es[j]? := by
  have hlt : (L.take j).length = j := by simp; omega
  rw [List.getElem?_append_right (by omega), hlt, List.getElem?_drop]
  congr 1; omega

section rules
variable {P : Program} {A : Ar} (hA : stdA P = A)
include hA

theorem Ar.int_ {x : Int} {K : Int → Prop} (h : ∀ r, r = x → K r) : A.int x K := by subst hA; exact h _ rfl
theorem Ar.bool_ {x : Bool} {K : Bool → Prop} (h : ∀ r, r = x → K r) : A.bool x K := by subst hA; exact h _ rfl
theorem Ar.nat_ {x : Nat} {K : Nat → Prop} (h : ∀ r, r = x → K r) : A.nat x K := by subst hA; exact h _ rfl
theorem Ar.row_ {x : List PV} {K : List PV → Prop} (h : ∀ r, r = x → K r) : A.row x K := by subst hA; exact h _ rfl

omit hA in
theorem wrap_i64 {n : Int} (h1 : -9223372036854775808 ≤ n) (h2 : n ≤ 9223372036854775807) : IntKind.i64.wrap n = n := by
  rw [IntKind.wrap_i64]; omega

theorem Ar.add_ {a b : Int} {K : Int → Prop} (h1 : -9223372036854775808 ≤ a + b ∧ a + b ≤ 9223372036854775807) (h : ∀ r, r = a + b → K r) : A.int (A.arith .add .i64 a b) K := by
  subst hA; exact h _ (wrap_i64 h1.1 h1.2)
theorem Ar.sub_ {a b : Int} {K : Int → Prop} (h1 : -9223372036854775808 ≤ a - b ∧ a - b ≤ 9223372036854775807) (h : ∀ r, r = a - b → K r) : A.int (A.arith .sub .i64 a b) K := by
  subst hA; exact h _ (wrap_i64 h1.1 h1.2)
theorem Ar.mul_ {a b : Int} {K : Int → Prop} (h1 : -9223372036854775808 ≤ a * b ∧ a * b ≤ 9223372036854775807) (h : ∀ r, r = a * b → K r) : A.int (A.arith .mul .i64 a b) K := by
  subst hA; exact h _ (wrap_i64 h1.1 h1.2)
theorem Ar.neg_ {a : Int} {K : Int → Prop} (h1 : -9223372036854775808 < a ∧ a ≤ 9223372036854775807) (h : ∀ r, r = -a → K r) : A.int (A.neg .i64 a) K := by
  subst hA; exact h _ (by show IntKind.i64.wrap (0 - a) = _; rw [wrap_i64 (by omega) (by omega)]; omega)
/-- A product of bounded numbers. -/
theorem Ar.mulB {a b : Int} {K : Int → Prop} (M N : Int) (h1 : -M ≤ a ∧ a ≤ M) (h2 : -N ≤ b ∧ b ≤ N) (h3 : 0 ≤ M * N ∧ M * N ≤ 9223372036854775807) (h : ∀ r, r = a * b → -(M * N) ≤ r → r ≤ M * N → K r) : A.int (A.arith .mul .i64 a b) K := by
  have h4 : (a * b).natAbs ≤ M.natAbs * N.natAbs := by
    rw [Int.natAbs_mul]
    exact Nat.mul_le_mul (by omega) (by omega)
  have h5 : (M * N).natAbs = M.natAbs * N.natAbs := Int.natAbs_mul ..
  have h6 : -(M * N) ≤ a * b ∧ a * b ≤ M * N := by rw [← h5] at h4; omega
  exact Ar.mul_ hA (by omega) (fun r hr => h r hr (by omega) (by omega))
/-- The quotient of what is not negative. -/
theorem Ar.quo_ {a b : Int} {K : Int → Prop} (h1 : 0 ≤ a ∧ a ≤ 9223372036854775807 ∧ 0 < b) (h : ∀ r, r = a / b → K r) : A.int (A.divi .quo .i64 a b) K := by
  subst hA
  refine h _ ?_
  show IntKind.i64.wrap (a.tdiv b) = _
  rw [Int.tdiv_eq_ediv_of_nonneg h1.1]
  have h2 : 0 ≤ a / b := Int.ediv_nonneg h1.1 (by omega)
  have h3 : a / b ≤ a := Int.ediv_le_self b h1.1
  exact wrap_i64 (by omega) (by omega)
theorem Ar.rem_ {a b : Int} {K : Int → Prop} (h1 : 0 ≤ a) (h : ∀ r, r = a % b → K r) : A.int (A.divi .rem .i64 a b) K := by
  subst hA
  refine h _ ?_
  show a.tmod b = _
  rw [Int.tmod_eq_emod_of_nonneg h1]
/-- The remainder of whatever there is. -/
theorem Ar.trem_ {a b : Int} {K : Int → Prop} (h : ∀ r, r = a.tmod b → K r) : A.int (A.divi .rem .i64 a b) K := by
  subst hA; exact h _ rfl
theorem Ar.tquo_ {a b : Int} {K : Int → Prop} (h1 : -9223372036854775808 ≤ a.tdiv b ∧ a.tdiv b ≤ 9223372036854775807) (h : ∀ r, r = a.tdiv b → K r) : A.int (A.divi .quo .i64 a b) K := by
  subst hA; exact h _ (wrap_i64 h1.1 h1.2)
theorem Ar.mx_ {a b : Int} {K : Int → Prop} (h : ∀ r, r = max a b → K r) : A.int (A.mx a b) K := by
  subst hA; refine h _ ?_; show (if b > a then b else a) = _; split <;> omega
theorem Ar.mn_ {a b : Int} {K : Int → Prop} (h : ∀ r, r = min a b → K r) : A.int (A.mn a b) K := by
  subst hA; refine h _ ?_; show (if b < a then b else a) = _; split <;> omega
theorem Ar.len_ {es : List PV} {K : Int → Prop} (h : ∀ r : Int, 0 ≤ r → r.toNat = es.length → K r) : A.int (A.ofN (A.len es)) K := by subst hA; exact h _ (by show (0 : Int) ≤ (es.length : Int); omega) (by show ((es.length : Int)).toNat = _; omega)
theorem Ar.ofN_ {n : Nat} {K : Int → Prop} (h : ∀ r : Int, 0 ≤ r → r.toNat = n → K r) : A.int (A.ofN n) K := by subst hA; exact h _ (by show (0 : Int) ≤ (n : Int); omega) (by show ((n : Int)).toNat = _; omega)
theorem Ar.conv_ {k : IntKind} {n : Int} {K : Int → Prop} (h : ∀ r, r = k.wrap n → K r) : A.int (A.conv k n) K := by subst hA; exact h _ rfl
theorem Ar.conv64_ {n : Int} {K : Int → Prop} (h1 : -9223372036854775808 ≤ n ∧ n ≤ 9223372036854775807) (h : K n) : A.int (A.conv .i64 n) K := by
  subst hA; show K (IntKind.i64.wrap n); rw [wrap_i64 h1.1 h1.2]; exact h

theorem Ar.eql_ {a b : Int} {K : Bool → Prop} (h1 : a = b → K true) (h2 : a ≠ b → K false) : A.bool (A.cmp .eql a b) K := by
  subst hA; show K (a == b)
  by_cases h : a = b
  · rw [beq_iff_eq.2 h]; exact h1 h
  · rw [beq_eq_false_iff_ne.2 h]; exact h2 h
theorem Ar.neq_ {a b : Int} {K : Bool → Prop} (h1 : a ≠ b → K true) (h2 : a = b → K false) : A.bool (A.cmp .neq a b) K := by
  subst hA; show K (a != b)
  by_cases h : a = b
  · rw [show (a != b) = false by simp [h]]; exact h2 h
  · rw [show (a != b) = true by simp [h]]; exact h1 h
theorem Ar.lss_ {a b : Int} {K : Bool → Prop} (h1 : a < b → K true) (h2 : b ≤ a → K false) : A.bool (A.cmp .lss a b) K := by
  subst hA; show K (decide (a < b))
  by_cases h : a < b
  · rw [decide_eq_true h]; exact h1 h
  · rw [decide_eq_false h]; exact h2 (by omega)
theorem Ar.leq_ {a b : Int} {K : Bool → Prop} (h1 : a ≤ b → K true) (h2 : b < a → K false) : A.bool (A.cmp .leq a b) K := by
  subst hA; show K (decide (a ≤ b))
  by_cases h : a ≤ b
  · rw [decide_eq_true h]; exact h1 h
  · rw [decide_eq_false h]; exact h2 (by omega)
theorem Ar.gtr_ {a b : Int} {K : Bool → Prop} (h1 : b < a → K true) (h2 : a ≤ b → K false) : A.bool (A.cmp .gtr a b) K := by
  subst hA; show K (decide (b < a))
  by_cases h : b < a
  · rw [decide_eq_true h]; exact h1 h
  · rw [decide_eq_false h]; exact h2 (by omega)
theorem Ar.geq_ {a b : Int} {K : Bool → Prop} (h1 : b ≤ a → K true) (h2 : a < b → K false) : A.bool (A.cmp .geq a b) K := by
  subst hA; show K (decide (b ≤ a))
  by_cases h : b ≤ a
  · rw [decide_eq_true h]; exact h1 h
  · rw [decide_eq_false h]; exact h2 (by omega)
theorem Ar.bneq_ {a b : Bool} {K : Bool → Prop} (h1 : a ≠ b → K true) (h2 : a = b → K false) : A.bool (A.bnot (A.beq a b)) K := by
  subst hA; show K (!(a == b))
  by_cases h : a = b
  · subst h; simpa using h2 rfl
  · have := h1 h; revert this; cases a <;> cases b <;> simp_all
theorem Ar.beq_ {a b : Bool} {K : Bool → Prop} (h1 : a = b → K true) (h2 : a ≠ b → K false) : A.bool (A.beq a b) K := by
  subst hA; show K (a == b)
  by_cases h : a = b
  · subst h; simpa using h1 rfl
  · have := h2 h; revert this; cases a <;> cases b <;> simp_all
/-- A comparison whose outcome is not asked for at once. -/
theorem Ar.cmp_ {op : BinOp} {a b : Int} {K : Bool → Prop} (h : ∀ r, r = (stdA P).cmp op a b → K r) : A.bool (A.cmp op a b) K := by subst hA; exact h _ rfl
theorem Ar.not_ {b : Bool} {K : Bool → Prop} (h : ∀ r, r = !b → K r) : A.bool (A.bnot b) K := by subst hA; exact h _ rfl
theorem Ar.notT_ {K : Bool → Prop} (h : K false) : A.bool (A.bnot true) K := by subst hA; exact h
theorem Ar.notF_ {K : Bool → Prop} (h : K true) : A.bool (A.bnot false) K := by subst hA; exact h

theorem Ar.toN_ {n : Int} {K : Nat → Prop} (h : ∀ r : Nat, r = n.toNat → K r) : A.nat (A.toN n) K := by subst hA; exact h _ rfl
theorem Ar.subN_ {a b : Nat} {K : Nat → Prop} (h : ∀ r : Nat, r = a - b → K r) : A.nat (A.subN a b) K := by subst hA; exact h _ rfl
theorem Ar.addN_ {a b : Nat} {K : Nat → Prop} (h : ∀ r : Nat, r = a + b → K r) : A.nat (A.addN a b) K := by subst hA; exact h _ rfl
theorem Ar.lenN_ {es : List PV} {K : Nat → Prop} (h : ∀ r : Nat, r = es.length → K r) : A.nat (A.len es) K := by subst hA; exact h _ rfl

theorem Ar.set_ {l : List PV} {i : Nat} {x : PV} {K : List PV → Prop} (h : ∀ r, r = l.set i x → K r) : A.row (A.setAt l i x) K := by subst hA; exact h _ rfl
theorem Ar.app_ {l ys : List PV} {K : List PV → Prop} (h : ∀ r, r = l ++ ys → K r) : A.row (A.app l ys) K := by subst hA; exact h _ rfl
theorem Ar.appS_ {l ys : List PV} {o n : Nat} {K : List PV → Prop} (h : ∀ r, r = (l.drop o).take n ++ ys → K r) : A.row (A.app (A.sub l o n) ys) K := by subst hA; exact h _ rfl
theorem Ar.sl_ {l : List PV} {o n : Nat} {K : List PV → Prop} (h : ∀ r, r = (l.drop o).take n → K r) : A.row (A.sub l o n) K := by subst hA; exact h _ rfl
theorem Ar.rep_ {n : Nat} {x : PV} {K : List PV → Prop} (h : ∀ r, r = List.replicate n x → K r) : A.row (A.rep n x) K := by subst hA; exact h _ rfl
theorem Ar.spl_ {l ys : List PV} {o : Nat} {K : List PV → Prop} (h : ∀ r, r = l.take o ++ ys ++ l.drop (o + ys.length) → K r) : A.row (A.spl l o ys) K := by subst hA; exact h _ rfl

theorem Ar.idx_ {l : List PV} {i : Nat} {K : PV → Prop} {x : PV} (h : l[i]? = some x) (hK : K x) : A.idx l i K := by subst hA; exact ⟨x, h, hK⟩
theorem Ar.idxS_ {l : List PV} {o n i : Nat} {K : PV → Prop} {x : PV} (h : ((l.drop o).take n)[i]? = some x) (hK : K x) : A.idx (A.sub l o n) i K := by subst hA; exact ⟨x, h, hK⟩
theorem Ar.nn_ {b : Int} {K : Unit → Prop} (h : 0 ≤ b) (hK : K ()) : A.nn b K := by subst hA; exact ⟨h, hK⟩
theorem Ar.nz_ {b : Int} {K : Unit → Prop} (h : b ≠ 0) (hK : K ()) : A.nz b K := by subst hA; exact ⟨h, hK⟩
theorem Ar.fits_ {n m : Nat} {K : Unit → Prop} (h : n * (m + 1) ≤ 140737488355328) (hK : K ()) : A.fits n m K := by subst hA; exact ⟨h, hK⟩
theorem Ar.fitsL_ {l : List PV} {m : Nat} {K : Unit → Prop} (h : l.length * (m + 1) ≤ 140737488355328) (hK : K ()) : A.fits (A.len l) m K := by subst hA; exact ⟨h, hK⟩
theorem Ar.rng_ {l h n : Nat} {K : Unit → Prop} (h1 : l ≤ h ∧ h ≤ n) (hK : K ()) : A.rng l h n K := by subst hA; exact ⟨h1.1, h1.2, hK⟩
theorem Ar.wid_ {l : List PV} {n : Nat} {fl : Bool} {K : Unit → Prop} (h : ∀ x ∈ l, (leaves x).length = n ∧ (fl = true → isFree x = true)) (hK : K ()) : A.wid l n fl K := by subst hA; exact ⟨h, hK⟩
theorem Ar.same_ {l l' : List PV} {K : Unit → Prop} (h : l.length = l'.length) (hK : K ()) : A.same l l' K := by subst hA; exact ⟨h, hK⟩

theorem Ar.isNil_ {es : List PV} {K : Bool → Prop} (h1 : es ≠ [] → K false) (h2 : es = [] → K true) (h3 : es = [] → K false) : A.isNil es K := by subst hA; exact ⟨h1, fun h => ⟨h2 h, h3 h⟩⟩
theorem Ar.call_ {f : FuncId} {ps ps' : List PV} {K : RS → List PV → Prop} {rs : RS} {outs : List PV} (hc : Callable P f) (h : Does P f ps rs outs) (hp : ps' = ps) (hK : K rs outs) : A.call f ps' K := by
  subst hA; subst hp; exact ⟨hc, rs, outs, hK, h⟩

theorem Ar.callB {f : FuncId} {ps ps' : List PV} {K : RS → List PV → Prop} {b : Bool} (hc : Callable P f) (h : Does P f ps (.pv (.val (.bool b))) []) (hp : ps' = ps) (hK : ∀ r, r = b → K (.pv (.val (.bool r))) []) : A.call f ps' K :=
  Ar.call_ hA hc h hp (hK _ rfl)
theorem Ar.pass_ {f : FuncId} {xs xs' : List PV} {K : Bool → List PV → Prop} {b : Bool} {zs : List PV} (h : Passes P f xs b zs) (hp : xs' = xs) (hK : K b zs) : A.pass f xs' K := by subst hA hp; exact ⟨b, zs, hK, h⟩
theorem Ar.rev_ {f : FuncId} {es : List PV} {K : List PV → Prop} (h : Turns P f es.length) (hK : ∀ r, r = es.reverse → K r) : A.rev f es K := by subst hA; exact ⟨h, hK _ rfl⟩
theorem Ar.callT {f : FuncId} {ps ps' : List PV} {K : RS → List PV → Prop} {b : Bool} (hc : Callable P f) (h : Does P f ps (.pv (.val (.bool b))) []) (hp : ps' = ps) (h1 : b = true → K (.pv (.val (.bool true))) []) (h2 : b = false → K (.pv (.val (.bool false))) []) : A.call f ps' K := by
  cases b
  · exact Ar.call_ hA hc h hp (h2 rfl)
  · exact Ar.call_ hA hc h hp (h1 rfl)
theorem Ar.callS {f : FuncId} {ps ps' : List PV} {K : RS → List PV → Prop} {b : Int} (hc : Callable P f) (h : Does P f ps (.pv (.val (.int .i64 (sgn b)))) []) (hp : ps' = ps) (hK : ∀ r, r = sgn b → -1 ≤ r → r ≤ 1 → K (.pv (.val (.int .i64 r))) []) : A.call f ps' K :=
  Ar.call_ hA hc h hp (hK _ rfl (sgn_range b).1 (sgn_range b).2)
theorem Ar.callI {f : FuncId} {ps ps' : List PV} {K : RS → List PV → Prop} {b : Int} (hc : Callable P f) (h : Does P f ps (.pv (.val (.int .i64 b))) []) (hp : ps' = ps) (hK : ∀ r, r = b → K (.pv (.val (.int .i64 r))) []) : A.call f ps' K :=
  Ar.call_ hA hc h hp (hK _ rfl)
theorem Ar.callBB {f : FuncId} {ps ps' : List PV} {K : RS → List PV → Prop} {b c : Bool} (hc : Callable P f) (h : Does P f ps (.tup [.pv (.val (.bool b)), .pv (.val (.bool c))]) []) (hp : ps' = ps) (hK : ∀ r q, r = b → q = c → K (.tup [.pv (.val (.bool r)), .pv (.val (.bool q))]) []) : A.call f ps' K :=
  Ar.call_ hA hc h hp (hK _ _ rfl rfl)
theorem Ar.callIB {f : FuncId} {ps ps' : List PV} {K : RS → List PV → Prop} {b : Int} {c : Bool} (hc : Callable P f) (h : Does P f ps (.tup [.pv (.val (.int .i64 b)), .pv (.val (.bool c))]) []) (hp : ps' = ps) (hK : ∀ r q, r = b → q = c → K (.tup [.pv (.val (.int .i64 r)), .pv (.val (.bool q))]) []) : A.call f ps' K :=
  Ar.call_ hA hc h hp (hK _ _ rfl rfl)
theorem Ar.callG2 {f : FuncId} {ps ps' : List PV} {K : RS → List PV → Prop} {a b : Int} (hc : Callable P f) (h : Does P f ps (.ag [.pv (.val (.int .i64 a)), .pv (.val (.int .i64 b))]) []) (hp : ps' = ps) (hK : ∀ r q, r = a → q = b → K (.ag [.pv (.val (.int .i64 r)), .pv (.val (.int .i64 q))]) []) : A.call f ps' K :=
  Ar.call_ hA hc h hp (hK _ _ rfl rfl)
theorem Ar.callRB {f : FuncId} {ps ps' : List PV} {K : RS → List PV → Prop} {es : List PV} {sz : Nat} {u : RU} {b : Bool} (hc : Callable P f) (h : Does P f ps (.tup [.row es sz u, .pv (.val (.bool b))]) []) (hp : ps' = ps) (hK : ∀ r q, r = es → q = b → K (.tup [.row r sz u, .pv (.val (.bool q))]) []) : A.call f ps' K :=
  Ar.call_ hA hc h hp (hK _ _ rfl rfl)
/-- A call that writes a row. -/
theorem Ar.callO {f : FuncId} {ps ps' : List PV} {K : RS → List PV → Prop} {n : Int} {es : List PV} (hc : Callable P f) (h : Does P f ps (.pv (.val (.int .i64 n))) [.sl es]) (hp : ps' = ps) (hK : ∀ r q, r = n → q = es → K (.pv (.val (.int .i64 r))) [.sl q]) : A.call f ps' K :=
  Ar.call_ hA hc h hp (hK _ _ rfl rfl)
theorem Ar.callR {f : FuncId} {ps ps' : List PV} {K : RS → List PV → Prop} {es : List PV} {sz : Nat} {u : RU} (hc : Callable P f) (h : Does P f ps (.row es sz u) []) (hp : ps' = ps) (hK : ∀ r, r = es → K (.row r sz u) []) : A.call f ps' K :=
  Ar.call_ hA hc h hp (hK _ rfl)

/-- A loop, by what is known at its head: with a measure. -/
theorem Ar.loop_ {α : Type} {step : St → (Ex → St → Prop) → Prop} {σ : St} {K : Ex → St → Prop} (μ : α → Nat) (I : α → Prop) (n : Nat) (sl : α → List (Nat × Slot)) (fl : α → List (Nat × Option File)) (x : α)
    (h0 : At n (sl x) (fl x) σ) (hx : I x)
    (h : ∀ x s f, I x → step ⟨n, updL s (sl x), updL f (fl x)⟩ (fun ex σ' => match ex with
    | .normal => ∃ y, μ y < μ x ∧ I y ∧ At n (sl y) (fl y) σ'
    | ex => K ex σ')) : A.loop step σ K := by
  subst hA
  refine ⟨fun m σ => ∃ x, μ x = m ∧ I x ∧ At n (sl x) (fl x) σ, μ x, ⟨x, rfl, hx, h0⟩, ?_⟩
  rintro m σ ⟨y, rfl, hy, hat⟩
  have := h y σ.slots σ.files hy
  rw [← hat.eq] at this
  have e : (fun ex σ' => match ex with
    | .normal => ∃ z, μ z < μ y ∧ I z ∧ At n (sl z) (fl z) σ'
    | ex => K ex σ') = (fun (ex : Ex) (σ' : St) => match ex with
    | .normal => ∃ m, m < μ y ∧ ∃ x, μ x = m ∧ I x ∧ At n (sl x) (fl x) σ'
    | ex => K ex σ') := by
    funext ex σ'
    cases ex with
    | normal => exact propext ⟨fun ⟨z, h1, h2, h3⟩ => ⟨_, h1, z, rfl, h2, h3⟩, fun ⟨m, h1, z, h2, h3, h4⟩ => ⟨z, by rw [h2]; exact h1, h3, h4⟩⟩
    | _ => rfl
  exact cast (congrArg (step σ) e) this
end rules
end Go.VAI

namespace Go.VAI

/-! ### What comes in from the caller of a law -/

def hasFs (h : Nat → List PV → Prop) : List (Nat × Nat) → List PV → Prop
  | [], ls => ls = []
  | (_, t) :: fs, ls => ∃ a r, ls = a ++ r ∧ h t a ∧ hasFs h fs r

/-- Leaves of a type. -/
def hasL : Nat → Nat → List PV → Prop
  | 0, _, _ => False
  | n + 1, t, ls => match tt t with
    | some ⟨_, _, _, [.val (.int k _)], .scalar⟩ => ∃ x, ls = [.val (.int k x)] ∧ (Lit.int k x).wf = true
    | some ⟨_, _, _, [.val (.bool _)], .scalar⟩ => ∃ b, ls = [.val (.bool b)]
    | some ⟨_, _, _, _, .slice e⟩ => (match tt e with
      | some i => ∃ es, ls = [.sl es] ∧ es.length ≤ 9223372036854775807 ∧ ∀ x ∈ es, ofLeaves i.ag (leaves x) = some x ∧ hasL n e (leaves x)
      | none => False)
    | some ⟨_, _, _, _, .struct fs⟩ => hasFs (hasL n) fs ls
    | _ => False

def fsOk (p : Nat → Bool) (sz : Nat) : Nat → List (Nat × Nat) → Bool
  | o, [] => o == sz
  | o, (o', t) :: fs => o' == o && p t && (match tt t with
    | some i => fsOk p sz (o + i.size) fs
    | none => false)

def tyOk : Nat → Nat → Bool
  | 0, _ => false
  | n + 1, t => match tt t with
    | some ⟨sz, ag, _, [.val (.int _ _)], .scalar⟩ => sz == 1 && !ag
    | some ⟨sz, ag, _, [.val (.bool _)], .scalar⟩ => sz == 1 && !ag
    | some ⟨sz, ag, _, _, .slice e⟩ => sz == 1 && !ag && tyOk n e && (match tt e with
      | some i => i.size != 0
      | none => false)
    | some ⟨sz, ag, _, _, .struct fs⟩ => ag && fsOk (tyOk n) sz 0 fs
    | _ => false

/-- A value of a type. -/
def hasV (n t : Nat) (r : PV) : Prop := match tt t with
  | some i => (match i.ag with
    | true => ∃ ls, r = .agg ls ∧ hasL n t ls
    | false => hasL n t [r])
  | none => False

def hasVs (n : Nat) : List Nat → List PV → Prop
  | [], rs => rs = []
  | t :: ts, rs => ∃ r rest, rs = r :: rest ∧ hasV n t r ∧ hasVs n ts rest

section
variable {H : Type} {enc : TypeId × Value → H} {P : Program} {w : World} {spare : Nat → Bool} {held : Bool}

/-- How a list of leaf values reads. -/
def ReadsL (w : World) (n t : Nat) (cs : List Value) : Prop := ∃ ls F, RepL w ls cs F ∧ hasL n t ls ∧ (∀ v ∈ cs, v.oneCell' = true) ∧ ∀ b ∈ F, b < w.heap.size

theorem cellsOf_eq (hT : TTok P) {t : Nat} {i : TI} (ht : tt t = some i) : P.cellsOf t = i.size := by
  obtain ⟨inf, z, cs, h1, h2, _⟩ := (hT _ _ ht).info
  unfold Program.cellsOf
  rw [h1]; exact h2

theorem RepL.append {w : World} : ∀ {xs ys : List PV} {cs ds : List Value} {F G : List Nat}, RepL w xs cs F → RepL w ys ds G → RepL w (xs ++ ys) (cs ++ ds) (F ++ G)
  | _, _, _, _, _, _, .nil, h => h
  | _, _, _, _, _, _, .cons (F := F1) (G := G1) h t, h2 => by
    rw [List.cons_append, List.cons_append, List.append_assoc]
    exact .cons h (t.append h2)

theorem mapM_get {α β : Type} {f : α → Option β} : ∀ {l : List α} {r : List β}, l.mapM f = some r → r.length = l.length ∧ ∀ (i : Nat) (x : α), l[i]? = some x → ∃ y, r[i]? = some y ∧ f x = some y := by
  intro l
  induction l with
  | nil => intro r h; simp at h; subst h; exact ⟨rfl, by simp⟩
  | cons a as ih =>
    intro r h
    rw [List.mapM_cons] at h
    cases ha : f a with
    | none => simp [ha] at h
    | some b =>
      cases has : as.mapM f with
      | none => simp [ha, has] at h
      | some bs =>
        simp [ha, has] at h
        subst h
        obtain ⟨h1, h2⟩ := ih has
        refine ⟨by simp [h1], fun i x hx => ?_⟩
        cases i with
        | zero => simp at hx; subst hx; exact ⟨b, rfl, ha⟩
        | succ i => simp at hx; obtain ⟨y, hy, hf⟩ := h2 i x hx; exact ⟨y, by simpa using hy, hf⟩

/-- A struct's fields. -/
theorem open_fields (hT : TTok P) {n : Nat} {r : TypeId → List Value → Option (DataW H × List MemPlace)} (hr : ∀ t cs x, tyOk n t = true → r t cs = some x → ReadsL w n t cs) {sz : Nat} {cs : List Value} (hlen : cs.length = sz) :
    ∀ (fs : List Field) (o : Nat), fsOk (tyOk n) sz o (fs.map fun f => (f.offset, f.type)) = true →
      (∀ f ∈ fs, ∃ x, r f.type ((cs.drop f.offset).take (P.cellsOf f.type)) = some x) →
      ∃ ls F, RepL w ls (cs.drop o) F ∧ hasFs (hasL n) (fs.map fun f => (f.offset, f.type)) ls ∧ (∀ v ∈ cs.drop o, v.oneCell' = true) ∧ ∀ b ∈ F, b < w.heap.size
  | [], o, hok, _ => by
    simp only [List.map_nil, fsOk, beq_iff_eq] at hok
    have : cs.drop o = [] := by rw [List.drop_eq_nil_iff]; omega
    rw [this]
    exact ⟨[], [], .nil, rfl, by simp, by simp⟩
  | f :: fs, o, hok, hall => by
    simp only [List.map_cons, fsOk, Bool.and_eq_true, beq_iff_eq] at hok
    obtain ⟨⟨ho, hty⟩, hok⟩ := hok
    split at hok
    · rename_i i hi
      obtain ⟨x, hx⟩ := hall f (by simp)
      rw [cellsOf_eq hT hi, ho] at hx
      obtain ⟨ls, F, a1, a2, a3, a4⟩ := hr _ _ _ hty hx
      obtain ⟨ls', F', b1, b2, b3, b4⟩ := open_fields hT hr hlen fs (o + i.size) hok (fun g hg => hall g (by simp [hg]))
      have e : cs.drop o = (cs.drop o).take i.size ++ cs.drop (o + i.size) := by
        rw [← List.drop_drop, List.take_append_drop]
      refine ⟨ls ++ ls', F ++ F', ?_, ⟨ls, ls', rfl, a2, b2⟩, ?_, ?_⟩
      · rw [e]; exact a1.append b1
      · rw [e]; intro v hv; rcases List.mem_append.1 hv with h | h
        · exact a3 v h
        · exact b3 v h
      · intro b hb; rcases List.mem_append.1 hb with h | h
        · exact a4 b h
        · exact b4 b h
    · cases hok

theorem add_off (a : Addr) (n : Nat) : (a.add n).off = a.off + n ∧ (a.add n).block = a.block ∧ (a.spot = none → (a.add n).spot = none) := by
  unfold Addr.add
  split
  · rename_i h; subst h; simp
  · exact ⟨rfl, rfl, fun _ => rfl⟩

theorem cell_spot {a : Addr} {v : Value} (h : w.cell? a = some v) : a.spot = none := by
  unfold World.cell? at h
  split at h
  · split at h
    · cases h
    · rename_i hs; simpa using hs
  · cases h

/-- A slice's elements. -/
theorem open_elems (hT : TTok P) {n : Nat} {r : TypeId → List Value → Option (DataW H × List MemPlace)} (hr : ∀ t cs x, tyOk n t = true → r t cs = some x → ReadsL w n t cs) {e : Nat} {i : TI} (he : tt e = some i) (hty : tyOk n e = true) (hsz : i.size ≠ 0) {a : Addr} :
    ∀ (l : List Nat) (k : Nat) (m : Nat), l = List.range' k m → (∀ j ∈ l, ∃ x, ((w.cells? 0 (a.add (j * i.size)) i.size).bind (r e)) = some x) →
      (m ≠ 0 → a.spot = none) → ∃ es F, es.length = m ∧ RepRow w a.block i.size (a.off + k * i.size) es F ∧ (∀ x ∈ es, ofLeaves i.ag (leaves x) = some x ∧ hasL n e (leaves x)) ∧ ∀ b ∈ F, b < w.heap.size
  | [], k, m, hl, _, _ => by
    have : m = 0 := by cases m with | zero => rfl | succ m => simp [List.range'_succ] at hl
    subst this
    exact ⟨[], [], rfl, .nil _ _ _, by simp, by simp⟩
  | j :: l, k, m, hl, hall, hsp => by
    cases m with
    | zero => simp at hl
    | succ m =>
      rw [List.range'_succ] at hl
      obtain ⟨hjk, hl⟩ := List.cons.inj hl
      subst hjk
      have hsp := hsp (by omega)
      obtain ⟨x, hx⟩ := hall j (by simp)
      rw [Option.bind_eq_some_iff] at hx
      obtain ⟨cs, hcs, hx⟩ := hx
      obtain ⟨_, hlen, hcell⟩ := World.cells?_some hcs
      obtain ⟨ls, F, a1, a2, a3, a4⟩ := hr _ _ _ hty hx
      obtain ⟨es, G, b0, b1, b2, b3⟩ := open_elems hT hr he hty hsz l (j + 1) m hl (fun q hq => hall q (by simp [hq])) (fun _ => hsp)
      have hll := a1.length
      -- the element
      obtain ⟨y, hy1, hy2⟩ : ∃ y, leaves y = ls ∧ ofLeaves i.ag ls = some y := by
        cases hag : i.ag with
        | true => exact ⟨.agg ls, rfl, rfl⟩
        | false =>
          obtain ⟨d, hd, h1, h2, _⟩ := (hT _ _ he).und
          obtain ⟨inf, z, zs, h3, h4, h5, h6, h7, h8, h9, h10, h11, h12⟩ := (hT _ _ he).info
          obtain ⟨v, hv, _⟩ := h12 hag
          have hs1 : i.size = 1 := by rw [← h8, hv]; rfl
          have : cs.length = 1 := by omega
          obtain ⟨c, rfl⟩ : ∃ c, cs = [c] := List.length_eq_one_iff.1 this
          obtain ⟨q, rfl⟩ : ∃ q, ls = [q] := List.length_eq_one_iff.1 (by rw [← hll]; rfl)
          refine ⟨q, ?_, by simp [ofLeaves]⟩
          cases a1 with
          | cons hq t =>
            have hc := a3 c (by simp)
            cases hq <;> first | rfl | (simp [Value.oneCell'] at hc)
      have hcells : RepCells w a.block (a.off + j * i.size) ls F := by
        refine a1.cells _ a3 (fun q v hq => ?_)
        have hlt : q < i.size := by rw [← hlen]; exact (List.getElem?_eq_some_iff.1 hq).1
        have h1 := hcell q hlt
        rw [hq] at h1
        obtain ⟨e1, e2, e3⟩ := add_off a (j * i.size)
        obtain ⟨f1, f2, f3⟩ := add_off (a.add (j * i.size)) q
        have : (a.add (j * i.size)).add q = ⟨a.block, a.off + j * i.size + q, none⟩ := by
          have hs := f3 (e3 hsp)
          generalize (a.add (j * i.size)).add q = z at f1 f2 hs
          obtain ⟨zb, zo, zs⟩ := z
          simp only at f1 f2 hs
          subst f1; subst f2; subst hs
          rw [e1, e2]
        rw [← this]; exact h1
      refine ⟨y :: es, F ++ G, by simp [b0], .cons (by rw [hy1, ← hll, hlen]) (by rw [hy1]; exact hcells) ?_, ?_, ?_⟩
      · rw [show a.off + j * i.size + i.size = a.off + (j + 1) * i.size by rw [Nat.add_mul]; omega]
        exact b1
      · intro z hz
        rcases List.mem_cons.1 hz with rfl | hz
        · exact ⟨by rw [hy1]; exact hy2, by rw [hy1]; exact a2⟩
        · exact b2 z hz
      · intro b hb
        rcases List.mem_append.1 hb with h | h
        · exact a4 b h
        · exact b3 b h

theorem open_trod (hT : TTok P) : ∀ (n m : Nat) {t : Nat} {cs : List Value} {x : DataW H × List MemPlace}, tyOk n t = true → DataW.trod enc P w 0 spare held m t cs = some x → ReadsL w n t cs
  | 0, _, _, _, _, h, _ => by simp [tyOk] at h
  | n + 1, m, t, cs, x, hty, h => by
    simp only [tyOk] at hty
    have hL : ∀ ls, hasL (n + 1) t ls = (match tt t with
      | some ⟨_, _, _, [.val (.int k _)], .scalar⟩ => ∃ x, ls = [.val (.int k x)] ∧ (Lit.int k x).wf = true
      | some ⟨_, _, _, [.val (.bool _)], .scalar⟩ => ∃ b, ls = [.val (.bool b)]
      | some ⟨_, _, _, _, .slice e⟩ => (match tt e with
        | some i => ∃ es, ls = [.sl es] ∧ es.length ≤ 9223372036854775807 ∧ ∀ x ∈ es, ofLeaves i.ag (leaves x) = some x ∧ hasL n e (leaves x)
        | none => False)
      | some ⟨_, _, _, _, .struct fs⟩ => hasFs (hasL n) fs ls
      | _ => False) := fun ls => rfl
    split at hty
    · rename_i sz ag by_ k z ht
      obtain ⟨d, hd, _, _, _, _, hint, _⟩ := (hT _ _ ht).und
      have := hint _ _ rfl rfl
      subst this
      obtain ⟨y, rfl, _, hwf⟩ := DataW.trod_int hd h
      refine ⟨[.val (.int k y)], [] ++ [], .cons (.val _ rfl) .nil, ?_, by simp [Value.oneCell'], by simp⟩
      rw [hL, ht]
      exact ⟨y, rfl, hwf⟩
    · rename_i sz ag by_ z ht
      obtain ⟨d, hd, _, _, _, _, _, hbool, _⟩ := (hT _ _ ht).und
      have := hbool _ rfl rfl
      subst this
      obtain ⟨y, rfl, _⟩ := DataW.trod_bool hd h
      refine ⟨[.val (.bool y)], [] ++ [], .cons (.val _ rfl) .nil, ?_, by simp [Value.oneCell'], by simp⟩
      rw [hL, ht]
      exact ⟨y, rfl⟩
    · rename_i sz ag by_ zero e ht
      obtain ⟨d, hd, _, _, hsl, _⟩ := (hT _ _ ht).und
      have := hsl _ rfl
      subst this
      simp only [Bool.and_eq_true] at hty
      obtain ⟨⟨_, hty⟩, hsz⟩ := hty
      split at hsz
      · rename_i i hi
        have hsz : i.size ≠ 0 := by simpa using hsz
        have hLs : ∀ es, es.length ≤ 9223372036854775807 → (∀ x ∈ es, ofLeaves i.ag (leaves x) = some x ∧ hasL n e (leaves x)) → hasL (n + 1) t [.sl es] := by
          intro es hle hes
          rw [hL, ht]
          simp only [hi]
          exact ⟨es, rfl, hle, hes⟩
        rcases DataW.trod_slice hd h with ⟨rfl, _⟩ | ⟨a, len, cap, elems, rest, m', rfl, rfl, _, _, hle, hmax, hel, hget, _, _⟩
        · exact ⟨[.sl []], [] ++ [], .cons (.nil none 0) .nil, hLs [] (by simp) (by simp), by simp [Value.oneCell'], by simp⟩
        · rw [cellsOf_eq hT hi] at hget
          have hsp : len ≠ 0 → a.spot = none := by
            intro h0
            have h1 := hget 0 (by omega)
            rw [List.getElem?_eq_getElem (by omega), Option.bind_eq_some_iff] at h1
            obtain ⟨cs, hcs, _⟩ := h1
            obtain ⟨_, _, hc⟩ := World.cells?_some hcs
            have h2 := hc 0 (by omega)
            have hlt : 0 < cs.length := by obtain ⟨_, hl, _⟩ := World.cells?_some hcs; omega
            rw [List.getElem?_eq_getElem hlt] at h2
            have := cell_spot h2
            simpa [Addr.add] using this
          obtain ⟨es, F, b0, b1, b2, b3⟩ := open_elems hT (fun t cs x h1 h2 => open_trod hT n m' h1 h2) hi hty hsz (a := a) (List.range' 0 len) 0 len rfl (fun j hj => by
            have hj' : j < len := by simp [List.mem_range'_1] at hj; omega
            exact ⟨elems[j], by rw [hget j hj', List.getElem?_eq_getElem (by omega)]⟩) hsp
          by_cases h0 : len = 0
          · subst h0
            have : es = [] := List.eq_nil_of_length_eq_zero b0
            subst this
            exact ⟨[.sl []], [] ++ [], .cons (.nil _ cap) .nil, hLs [] (by simp) (by simp), by simp [Value.oneCell'], by simp⟩
          · have hs := hsp h0
            obtain ⟨ab, ao, as_⟩ := a
            simp only at hs
            subst hs
            subst b0
            rw [show ao + 0 * i.size = ao by omega] at b1
            have hblk : ab < w.heap.size := by
              cases b1 with
              | nil => simp at h0
              | cons hl hc t =>
                cases hq : leaves _ with
                | nil => rw [hq] at hl; simp at hl; omega
                | cons y ys =>
                  rw [hq] at hc
                  cases hc with
                  | cons hc1 _ _ _ =>
                    exact World.block_lt_of_cell? w _ hc1
            refine ⟨[.sl es], (ab :: F) ++ [], .cons (.sl (fun e => h0 (by rw [e]; rfl)) hle b1) .nil, hLs es (by unfold maxLen at hmax; omega) b2, by simp [Value.oneCell'], fun b hb => ?_⟩
            simp only [List.append_nil, List.mem_cons] at hb
            rcases hb with rfl | hb
            · exact hblk
            · exact b3 b hb
      · cases hsz
    · rename_i sz ag by_ zero fs ht
      obtain ⟨d, hd, _, _, _, hst, _⟩ := (hT _ _ ht).und
      obtain ⟨fields, rfl, hfs, _⟩ := hst _ rfl
      subst hfs
      simp only [Bool.and_eq_true] at hty
      obtain ⟨xs, m', rfl, _, hlen, hxl, hget⟩ := DataW.trod_struct hd h
      rw [cellsOf_eq hT ht] at hlen
      obtain ⟨ls, F, a1, a2, a3, a4⟩ := open_fields hT (fun t cs x h1 h2 => open_trod hT n m' h1 h2) hlen fields.toList 0 hty.2 (fun f hf => by
        obtain ⟨j, hj, rfl⟩ := List.getElem_of_mem hf
        have hj' : j < fields.size := by simpa using hj
        have := hget j fields[j] (Array.getElem?_eq_getElem hj')
        exact ⟨xs[j]'(by omega), by rw [Array.getElem_toList, this, List.getElem?_eq_getElem]⟩)
      refine ⟨ls, F, by simpa using a1, ?_, by simpa using a3, a4⟩
      rw [hL, ht]
      split
      · rename_i he; cases he
      · rename_i he; cases he
      · rename_i he; cases he
      · rename_i he; cases he; exact a2
      · rename_i he; exact absurd rfl (he _ _ _ _ _)
    · cases hty

theorem ag_tyOk {n t : Nat} {i : TI} (h : tyOk n t = true) (ht : tt t = some i) : (i.ag = true → ∃ fs, i.kind = .struct fs) ∧ (i.ag = false → i.size = 1 ∧ (i.kind = .scalar ∨ ∃ e, i.kind = .slice e)) := by
  cases n with
  | zero => simp [tyOk] at h
  | succ n =>
    simp only [tyOk, ht] at h
    split at h
    · rename_i he; cases he; simp at h; simp only; exact ⟨fun e => (by rw [h.2] at e; cases e), fun _ => ⟨h.1, .inl trivial⟩⟩
    · rename_i he; cases he; simp at h; simp only; exact ⟨fun e => (by rw [h.2] at e; cases e), fun _ => ⟨h.1, .inl trivial⟩⟩
    · rename_i he; cases he; simp at h; simp only; exact ⟨fun e => (by rw [h.1.1.2] at e; cases e), fun _ => ⟨h.1.1.1, .inr ⟨_, rfl⟩⟩⟩
    · rename_i he; cases he; simp at h; simp only; exact ⟨fun _ => ⟨_, rfl⟩, fun e => (by rw [h.1] at e; cases e)⟩
    · cases h

theorem hasL_one {n t : Nat} {i : TI} (ht : tt t = some i) (hk : i.kind = .scalar ∨ ∃ e, i.kind = .slice e) {ls : List PV} (h : hasL n t ls) : ls.length = 1 := by
  cases n with
  | zero => exact h.elim
  | succ n =>
    simp only [hasL, ht] at h
    split at h
    · obtain ⟨_, rfl, _⟩ := h; rfl
    · obtain ⟨_, rfl⟩ := h; rfl
    · split at h
      · obtain ⟨_, rfl, _⟩ := h; rfl
      · exact h.elim
    · rename_i he; cases he; rcases hk with hk | ⟨_, hk⟩ <;> cases hk
    · exact h.elim

theorem no_agg {r : Reach} {base : Nat} {t : Nat} {a : Array Value} (h : Cell.okWide P w r base t (.agg a)) : False := by
  unfold Cell.okWide at h
  split at h <;> first | (rename_i he _; cases he; done) | skip
  all_goals first | (unfold Cell.ok at h; split at h <;> simp_all; done) | simp_all

/-- A value of a parameter. -/
theorem open_val (hT : TTok P) {n t : Nat} (hty : tyOk n t = true) {v : Value} {d : DataW H} {ps : List MemPlace} {base : Nat} {i : TI} (ht : tt t = some i) (hok : Value.okWide P w .any base t v) (h : DataW.Trod enc P w 0 spare held t v d ps) :
    ∃ r F, Rep w r v F ∧ hasV n t r ∧ ∀ b ∈ F, b < w.heap.size := by
  obtain ⟨m, h⟩ := h
  obtain ⟨ls, F, h1, h2, h3, h4⟩ := open_trod hT n m hty h
  obtain ⟨k1, k2⟩ := ag_tyOk hty ht
  obtain ⟨dd, hd, u1, u2, _⟩ := (hT _ _ ht).und
  cases hag : i.ag with
  | true =>
    obtain ⟨fs, rfl, _⟩ := u1 hag
    unfold Value.okWide at hok
    rw [hd] at hok
    obtain ⟨cs, rfl, _⟩ := hok
    refine ⟨.agg ls, F, ?_, ?_, h4⟩
    · have : (Value.agg cs).cells.toList = cs.toList := rfl
      rw [this] at h1
      obtain ⟨l⟩ := cs
      exact .agg h1
    · unfold hasV; rw [ht]; simp only [hag]; exact ⟨ls, rfl, h2⟩
  | false =>
    obtain ⟨k3, _⟩ := k2 hag
    have hcs : ∃ c, v.cells.toList = [c] := by
      obtain ⟨j1, j2⟩ := u2 hag
      have : ls.length = 1 := hasL_one ht (k2 hag).2 h2
      have hl := h1.length
      match hq : v.cells.toList with
      | [c] => exact ⟨c, rfl⟩
      | [] => rw [hq] at hl; simp at hl; omega
      | _ :: _ :: _ => rw [hq] at hl; simp at hl; omega
    obtain ⟨c, hc⟩ := hcs
    rw [hc] at h1 h3
    have hc1 := h3 c (by simp)
    have hvc : v = c := by
      obtain ⟨j1, j2⟩ := u2 hag
      unfold Value.okWide at hok
      rw [hd] at hok
      split at hok
      · rename_i fs he; cases he; exact absurd rfl (j1 _)
      · rename_i m' e he; cases he; exact absurd rfl (j2 _ _)
      · cases v with
        | agg a => exact (no_agg hok).elim
        | _ => simpa [Value.cells] using hc
    subst hvc
    match ls, h1 with
    | [x], .cons (F := F1) hx .nil =>
      refine ⟨x, F1, hx, ?_, fun b hb => h4 b (by simp [hb])⟩
      unfold hasV; rw [ht]; simp only [hag]; exact h2

/-- All values of the parameters. -/
theorem open_all (hT : TTok P) {n : Nat} {base : Nat} : ∀ {ts : List Nat} {vs : List Value} {ds : List (DataW H)} {ps : List MemPlace}, (∀ t ∈ ts, tyOk n t = true ∧ (tt t).isSome = true) →
    (∀ (j : Nat) t v, ts[j]? = some t → vs[j]? = some v → Value.okWide P w .any base t v) → DataW.TrodAll enc P w 0 spare held ts vs ds ps →
    ∃ (rs : List PV) (Fs : List (List Nat)), hasVs n ts rs ∧ vs.length = rs.length ∧ Fs.length = rs.length ∧ ds.length = rs.length ∧ ∀ (k : Nat) r v F, rs[k]? = some r → vs[k]? = some v → Fs[k]? = some F → Rep w r v F ∧ ∀ b ∈ F, b < w.heap.size
  | [], vs, ds, ps, _, _, h => by
    cases vs with
    | nil => cases ds with
      | nil => exact ⟨[], [], rfl, rfl, rfl, rfl, by simp⟩
      | cons => exact h.elim
    | cons => exact h.elim
  | t :: ts, vs, ds, ps, hty, hok, h => by
    cases vs with
    | nil => exact h.elim
    | cons v vs =>
      cases ds with
      | nil => exact h.elim
      | cons d ds =>
        obtain ⟨p, q, h1, h2, _⟩ := h
        obtain ⟨i, hi⟩ := Option.isSome_iff_exists.1 (hty t (by simp)).2
        obtain ⟨r, F, a1, a2, a3⟩ := open_val hT (hty t (by simp)).1 hi (hok 0 t v rfl rfl) h1
        obtain ⟨rs, Fs, b1, b2, b3, b4, b5⟩ := open_all hT (ts := ts) (vs := vs) (ds := ds) (fun t ht => hty t (by simp [ht])) (fun j t v hj hv => hok (j + 1) t v (by simpa using hj) (by simpa using hv)) h2
        refine ⟨r :: rs, F :: Fs, ⟨r, rs, rfl, a2, b1⟩, by simp [b2], by simp [b3], by simp [b4], fun k r' v' F' hr hv hF => ?_⟩
        cases k with
        | zero => simp at hr hv hF; subst hr hv hF; exact ⟨a1, a3⟩
        | succ k => exact b5 k r' v' F' (by simpa using hr) (by simpa using hv) (by simpa using hF)

theorem close_all (hl : laidOutB P = true) {W' : World} (hb : RowKit.Below w.heap.size w W') : ∀ {ts : List TypeId} {vs : List Value} {ds : List (DataW H)} {ps : List MemPlace}, (∀ t ∈ ts, P.readableRec t = true ∧ t < P.types.size) →
    DataW.TrodAll enc P w 0 (fun _ => true) true ts vs ds ps → DataW.TrodAll enc P W' 0 (fun b => decide (b < w.heap.size)) true ts vs ds ps
  | [], [], [], _, _, h => h
  | t :: ts, v :: vs, d :: ds, _, hts, ⟨p, q, h1, h2, e⟩ => by
    obtain ⟨m, h1'⟩ := h1
    exact ⟨p, q, RowKit.Below.trod hl (hts t (by simp)).1 (hts t (by simp)).2 ⟨m, h1'⟩ hb (DataW.trod_lt m _ _ _ h1'), close_all hl hb (fun t ht => hts t (by simp [ht])) h2, e⟩
  | [], [], _ :: _, _, _, h => h.elim
  | [], _ :: _, _, _, _, h => h.elim
  | _ :: _, [], _, _, _, h => h.elim
  | _ :: _, _ :: _, [], _, _, h => h.elim

end

/-- A law: whatever comes in, it answers true. -/
theorem law_lifted {C : Checked} (hT : TTok C.prog) {os : Os} {f : FuncId} {fn : Func} {s : ChangeSpec} {conds : List PathCond} {n : Nat} {tb : Nat} {H : Type} {enc : TypeId × Value → H} (own : ownKnob C.prog.godebug = none) (started : os.Started) (noInit : C.prog.inits.idxOf? f = none)
    (hfn : C.prog.funcs[f]? = some fn) (hres : fn.resultTypes = #[tb]) (hb : C.prog.underlying tb = some .bool) (hl : laidOutB C.prog = true) (hio : inout f = [])
    (hts : ∀ t ∈ fn.params.toList, (tyOk n t = true ∧ (tt t).isSome = true) ∧ C.prog.readableRec t = true ∧ t < C.prog.types.size)
    (hv : s.vars = []) (hs : ∀ ds : List (DataW H), ds.length = fn.params.size → s.fn H ds = { results := [.lit (.bool true)], args := ds })
    (witness : ∃ (w : World) (tape : Tape) (i : Input), w.os = os ∧ (w.forCall tape i).Shaped C.prog ∧ i.vars = [] ∧ Input.okWide C.prog (w.forCall tape i) .any w.heap.size f i ∧
      s.pre6 enc C.prog fn conds false (w.forCall tape i).memory i.args ∧ ({} : Assume).holds C.prog (lone (Frame.enter C.prog f i.args .normal) [] (w.forCall tape i)))
    (main : ∀ rs, hasVs n fn.params.toList rs → Does C.prog f rs (.pv (.val (.bool true))) []) :
    ReturnsInHanded {} C os f .any (s.pre6 enc C.prog fn conds false) (s.post enc C.prog fn false true false false) := by
  refine returnsInHanded_of_change_sized own started noInit hfn witness ?_
  intro W base args ds gs before hval hW _ _ _
  have hW' := hW
  obtain ⟨p, q, hA, hV, hpq, hfz, hnd⟩ := hW
  rw [hv] at hV
  have hgs : gs = [] ∧ q = [] := by cases gs <;> simp_all [DataW.TrodVars]
  obtain ⟨rfl, rfl⟩ := hgs
  obtain ⟨rs, Fs, a1, a2, a3, a4, a5⟩ := open_all hT (base := base) (fun t ht => (hts t ht).1) (fun j t v hj hv => hval j t v (by simpa using hj) (by simpa using hv)) hA
  have hrt : rootsOf f rs args.toList Fs = [] := by simp [rootsOf, hio]
  have hok : ArgsOk C.prog f W rs args.toList Fs := by
    refine ⟨a2, a3, fun k r v F hr hv hF _ => ⟨(a5 k r v F hr hv hF).1, (a5 k r v F hr hv hF).2, fun R hR => ?_⟩, fun k r v _ _ hk => ?_, fun R hR => ?_, ?_, fun k hk => ?_, .inl hio⟩
    · rw [hrt] at hR; simp at hR
    · rw [hio] at hk; simp at hk
    · rw [hrt] at hR; simp at hR
    · rw [hrt]; simp
    · rw [hio] at hk; simp at hk
  have hd := main rs a1 W args.toList Fs hok
  have hargs : (⟨args.toList⟩ : Array Value) = args := by simp
  rw [hargs] at hd
  refine hd.mono fun e W' ⟨v, he, hp⟩ => ⟨v, he, ?_⟩
  have hbel : RowKit.Below W.heap.size W W' := ⟨hp.os, hp.tape.1, hp.out, hp.size, fun k hk => hp.frame k hk (fun R hR => by rw [hrt] at hR; simp at hR)⟩
  obtain ⟨N, _, _, hr⟩ := hp.res
  have hvt : v = .bool true := by
    obtain ⟨_, F, hF, _⟩ := hr
    cases hF; rfl
  subst hvt
  have hdl : ds.length = fn.params.size := by
    have := (trodAll_length hA).2
    simpa using this
  have hsd : s.fn H (ds ++ []) = { results := [.lit (.bool true)], args := ds } := by rw [List.append_nil]; exact hs ds hdl
  refine ⟨ds, [], before, [], p, [], hW', ?_, ?_, ?_, hbel.frame _, fun h => by cases h⟩
  · rw [hsd, hres]
    exact ChangeShapes.trodAll_mk1 (RowKit.shut_bool hb true)
  · rw [hsd]
    exact close_all hl hbel (fun t ht => (hts t ht).2) hA
  · rw [hv, hsd]; rfl

end Go.VAI
