/- Limbs as numbers; the digits of a quotient; results as plain values; more rules. -/
import Derived.Test.YtialfhjffkoakaaGreatB
namespace Go.VAI
open Go.Proofs
set_option maxRecDepth 100000
set_option maxHeartbeats 8000000

/-! ### Limbs -/

def Lim (l : List Int) : Prop := ∀ x ∈ l, 0 ≤ x ∧ x < 65536
def ev : List Int → Int
  | [] => 0
  | x :: t => x + 65536 * ev t
def pw : Nat → Int
  | 0 => 1
  | k + 1 => 65536 * pw k
/-- No nought at the end. -/
def Can (l : List Int) : Prop := Lim l ∧ ∀ x, l.getLast? = some x → x ≠ 0

theorem pw_pos : ∀ k, 0 < pw k
  | 0 => by decide
  | k + 1 => by have := pw_pos k; simp only [pw]; omega
theorem pw_add : ∀ m n, pw (m + n) = pw m * pw n
  | 0, n => by simp [pw]
  | m + 1, n => by rw [show m + 1 + n = (m + n) + 1 by omega]; simp only [pw]; rw [pw_add m n, Int.mul_assoc]
theorem pw_le {m n : Nat} (h : m ≤ n) : pw m ≤ pw n := by
  induction h with
  | refl => exact Int.le_refl _
  | step h ih => have := pw_pos m; simp only [pw]; omega
theorem ev_app : ∀ a b : List Int, ev (a ++ b) = ev a + pw a.length * ev b
  | [], b => by simp [ev, pw]
  | x :: a, b => by
    simp only [List.cons_append, ev, List.length_cons, pw]
    rw [ev_app a b, Int.mul_assoc]; omega
theorem ev_nil : ev [] = 0 := rfl
theorem ev_one {x : Int} : ev [x] = x := by simp [ev]
theorem ev_push {a : List Int} {x : Int} : ev (a ++ [x]) = ev a + pw a.length * x := by rw [ev_app, ev_one]
theorem ev_rep (n : Nat) : ev (List.replicate n 0) = 0 := by
  induction n with
  | zero => rfl
  | succ n ih => simp [List.replicate_succ, ev, ih]
theorem Lim.app {a b : List Int} : Lim (a ++ b) ↔ Lim a ∧ Lim b := by
  simp only [Lim, List.mem_append]
  exact ⟨fun h => ⟨fun x hx => h x (.inl hx), fun x hx => h x (.inr hx)⟩, fun h x hx => hx.elim (h.1 x) (h.2 x)⟩
theorem Lim.cons {x : Int} {a : List Int} : Lim (x :: a) ↔ (0 ≤ x ∧ x < 65536) ∧ Lim a := by
  simp [Lim]
theorem Lim.nil : Lim [] := by simp [Lim]
theorem Lim.one {x : Int} : Lim [x] ↔ 0 ≤ x ∧ x < 65536 := by simp [Lim]
theorem Lim.take {a : List Int} (h : Lim a) (n : Nat) : Lim (a.take n) := fun x hx => h x (List.mem_of_mem_take hx)
theorem Lim.drop {a : List Int} (h : Lim a) (n : Nat) : Lim (a.drop n) := fun x hx => h x (List.mem_of_mem_drop hx)
theorem Lim.rep (n : Nat) : Lim (List.replicate n 0) := fun x hx => by simp at hx; omega
theorem Lim.get {a : List Int} (h : Lim a) {i : Nat} {x : Int} (hx : a[i]? = some x) : 0 ≤ x ∧ x < 65536 := h x (List.mem_of_getElem? hx)
theorem Lim.bound {a : List Int} (h : Lim a) : 0 ≤ ev a ∧ ev a < pw a.length := by
  induction a with
  | nil => simp [ev, pw]
  | cons x a ih =>
    rw [Lim.cons] at h
    have := ih h.2
    simp only [ev, List.length_cons, pw]; omega
theorem Lim.inj : ∀ {a b : List Int}, Lim a → Lim b → a.length = b.length → ev a = ev b → a = b
  | [], [], _, _, _, _ => rfl
  | [], y :: b, _, _, h, _ => by simp at h
  | x :: a, [], _, _, h, _ => by simp at h
  | x :: a, y :: b, ha, hb, hl, he => by
    rw [Lim.cons] at ha hb
    simp only [ev] at he
    have e1 : x = y := by omega
    have e2 : ev a = ev b := by omega
    rw [e1, Lim.inj ha.2 hb.2 (by simpa using hl) e2]
theorem ev_split (a : List Int) (n : Nat) (h : n ≤ a.length) : ev a = ev (a.take n) + pw n * ev (a.drop n) := by
  have := ev_app (a.take n) (a.drop n)
  rw [List.take_append_drop] at this
  rw [this, List.length_take, Nat.min_eq_left h]
theorem ev_take_succ {a : List Int} {i : Nat} {x : Int} (hx : a[i]? = some x) : ev (a.take (i + 1)) = ev (a.take i) + pw i * x := by
  rw [List.take_add_one, hx]
  have : i < a.length := (List.getElem?_eq_some_iff.1 hx).1
  simp only [Option.toList_some]
  rw [ev_push, List.length_take, Nat.min_eq_left (by omega)]
theorem drop_cons {α : Type} {a : List α} {i : Nat} {x : α} (hx : a[i]? = some x) : a.drop i = x :: a.drop (i + 1) := by
  obtain ⟨h1, h2⟩ := List.getElem?_eq_some_iff.1 hx
  rw [List.drop_eq_getElem_cons h1, h2]
theorem ev_drop {a : List Int} {i : Nat} {x : Int} (hx : a[i]? = some x) : ev (a.drop i) = x + 65536 * ev (a.drop (i + 1)) := by
  rw [drop_cons hx]; rfl
theorem set_drop {a : List Int} {i k : Nat} {y : Int} : (a.set (k + i) y).drop k = (a.drop k).set i y := by
  rw [List.drop_set, if_neg (by omega)]
  congr 1; omega
theorem set_take {a : List Int} {i k : Nat} {y : Int} (h : k ≤ i) : (a.set i y).take k = a.take k := by
  rw [List.take_set]
  rw [List.set_eq_of_length_le]
  simp; omega
theorem ev_set {a : List Int} {i : Nat} {x y : Int} (hx : a[i]? = some x) : ev (a.set i y) = ev a + pw i * (y - x) := by
  have h1 : i < a.length := (List.getElem?_eq_some_iff.1 hx).1
  have h2 : (a.set i y)[i]? = some y := by rw [List.getElem?_set_self h1]
  have h3 : (a.set i y).drop (i + 1) = a.drop (i + 1) := by rw [List.drop_set]; simp
  rw [ev_split a i (by omega), ev_split (a.set i y) i (by simp; omega), set_take (Nat.le_refl _), ev_drop hx, ev_drop h2, h3, Int.mul_sub, Int.mul_add, Int.mul_add]
  omega
theorem ev_set_drop {a : List Int} {j i : Nat} {x y : Int} (hx : a[j + i]? = some x) : ev ((a.set (j + i) y).drop j) = ev (a.drop j) + pw i * (y - x) := by
  rw [set_drop]
  exact ev_set (by rw [List.getElem?_drop]; exact hx)
theorem Lim.set {a : List Int} (h : Lim a) {i : Nat} {y : Int} (hy : 0 ≤ y ∧ y < 65536) : Lim (a.set i y) := fun x hx => by
  rcases List.mem_or_eq_of_mem_set hx with hx | rfl
  · exact h x hx
  · exact hy
theorem Can.low {l : List Int} (h : Can l) (hne : l ≠ []) : pw (l.length - 1) ≤ ev l := by
  obtain ⟨a, x, rfl⟩ : ∃ a x, l = a ++ [x] := ⟨_, _, (List.dropLast_concat_getLast hne).symm⟩
  have h1 := h.2 x (by simp)
  have h2 := Lim.app.1 h.1
  have h3 := (Lim.one.1 h2.2)
  have h4 := h2.1.bound
  have h5 := pw_pos a.length
  have : pw a.length * 1 ≤ pw a.length * x := Int.mul_le_mul_of_nonneg_left (by omega) (by omega)
  rw [ev_push]
  simp only [List.length_append, List.length_singleton, Nat.add_sub_cancel]
  omega
theorem can_of_ge {l : List Int} (h : Lim l) (hl : l ≠ [] → pw (l.length - 1) ≤ ev l) : Can l := by
  refine ⟨h, fun x hx => ?_⟩
  have hne : l ≠ [] := by rintro rfl; simp at hx
  obtain ⟨a, y, rfl⟩ : ∃ a x, l = a ++ [x] := ⟨_, _, (List.dropLast_concat_getLast hne).symm⟩
  simp at hx
  subst hx
  have h1 := hl hne
  have h2 := (Lim.app.1 h).1.bound
  rw [ev_push] at h1
  simp only [List.length_append, List.length_singleton, Nat.add_sub_cancel] at h1
  rintro rfl
  omega
theorem Can.nil : Can [] := ⟨Lim.nil, by simp⟩
theorem Can.pos {l : List Int} (h : Can l) (hne : l ≠ []) : 0 < ev l := by
  have := h.low hne; have := pw_pos (l.length - 1); omega
theorem Can.zero {l : List Int} (h : Can l) : l = [] ↔ ev l = 0 := by
  refine ⟨fun e => by rw [e]; rfl, fun e => ?_⟩
  by_cases hne : l = []
  · exact hne
  · have := h.pos hne; omega
theorem Can.lt {a b : List Int} (ha : Can a) (hb : Can b) (h : a.length < b.length) : ev a < ev b := by
  have h1 := ha.1.bound.2
  have h2 := hb.low (by rintro rfl; simp at h)
  have h3 := pw_le (m := a.length) (n := b.length - 1) (by omega)
  omega
theorem Can.inj {a b : List Int} (ha : Can a) (hb : Can b) (h : ev a = ev b) : a = b := by
  rcases Nat.lt_trichotomy a.length b.length with hl | hl | hl
  · have := ha.lt hb hl; omega
  · exact Lim.inj ha.1 hb.1 hl h
  · have := hb.lt ha hl; omega
theorem Can.len_le {a : List Int} (ha : Can a) {n : Nat} (h : ev a < pw n) : a.length ≤ n := by
  by_cases hne : a = []
  · simp [hne]
  · have h1 := ha.low hne
    rcases Nat.lt_or_ge n a.length with hl | hl
    · have := pw_le (m := n) (n := a.length - 1) (by omega); omega
    · exact hl
theorem Can.one {x : Int} (h : 0 < x ∧ x < 65536) : Can [x] := ⟨Lim.one.2 (by omega), by intro y hy; simp at hy; omega⟩
theorem can_ex (k : Nat) : ∀ n : Int, 0 ≤ n → n ≤ k → ∃ l, Can l ∧ ev l = n := by
  induction k with
  | zero => exact fun n h1 h2 => ⟨[], .nil, by simp [ev]; omega⟩
  | succ k ih =>
    intro n h1 h2
    by_cases h0 : n = 0
    · exact ⟨[], .nil, by simp [ev]; omega⟩
    obtain ⟨l, h3, h4⟩ := ih (n / 65536) (by omega) (by omega)
    refine ⟨n % 65536 :: l, ⟨Lim.cons.2 ⟨by omega, h3.1⟩, fun x hx => ?_⟩, by simp only [ev]; omega⟩
    cases hl : l with
    | nil =>
      subst hl
      simp at hx
      simp [ev] at h4
      omega
    | cons y t =>
      rw [hl, List.getLast?_cons_cons, ← hl] at hx
      exact h3.2 x hx
theorem can_cut {l : List Int} (h : Lim l) {m : Nat} (hm : m ≤ l.length) (hz : ∀ x ∈ l.drop m, x = 0) (hn : ∀ x, 0 < m → l[m - 1]? = some x → x ≠ 0) : Can (l.take m) ∧ ev (l.take m) = ev l := by
  refine ⟨⟨h.take m, fun x hx => ?_⟩, ?_⟩
  · rw [List.getLast?_take] at hx
    split at hx
    · cases hx
    · rename_i h0
      have hlt : m - 1 < l.length := by omega
      rw [List.getElem?_eq_getElem hlt] at hx
      refine hn x (by omega) ?_
      rw [List.getElem?_eq_getElem hlt]; simpa using hx
  · rw [ev_split l m hm]
    have : l.drop m = List.replicate (l.length - m) 0 := by
      rw [List.eq_replicate_iff]; exact ⟨by simp, hz⟩
    rw [this, ev_rep]; omega
theorem lt_at {a b : List Int} (ha : Lim a) (hb : Lim b) {i : Nat} {x y : Int} (hx : a[i]? = some x) (hy : b[i]? = some y) (hd : a.drop (i + 1) = b.drop (i + 1)) (h : x < y) : ev a < ev b := by
  have h1 : i < a.length := (List.getElem?_eq_some_iff.1 hx).1
  have h2 : i < b.length := (List.getElem?_eq_some_iff.1 hy).1
  rw [ev_split a i (by omega), ev_split b i (by omega), ev_drop hx, ev_drop hy, hd]
  have h3 := (ha.take i).bound
  have h4 := (hb.take i).bound
  rw [List.length_take, Nat.min_eq_left (by omega)] at h3 h4
  have h5 := pw_pos i
  have : pw i * (x + 1 + 65536 * ev (b.drop (i + 1))) ≤ pw i * (y + 65536 * ev (b.drop (i + 1))) := Int.mul_le_mul_of_nonneg_left (by omega) (by omega)
  have e : pw i * (x + 1 + 65536 * ev (b.drop (i + 1))) = pw i * (x + 65536 * ev (b.drop (i + 1))) + pw i := by
    rw [show x + 1 + 65536 * ev (b.drop (i + 1)) = (x + 65536 * ev (b.drop (i + 1))) + 1 by omega, Int.mul_add]; omega
  omega
def cmpI (a b : Int) : Int := if a < b then -1 else if b < a then 1 else 0

/-! ### A digit of a quotient -/

theorem kn_init {U V P t v1 q r v0 v2 u0 u2 : Int} (hU : U = u0 + P * (u2 + 65536 * t)) (hV : V = v0 + P * (v2 + 65536 * v1)) (hP : 0 < P) (hu0 : u0 < P) (hu2 : u2 < 65536) (hv0 : 0 ≤ v0) (hv2 : 0 ≤ v2)
    (hq : 0 ≤ q) (hqr : q * v1 + r = t) (hr : r < v1) : U < (q + 1) * V := by
  have h1 : P * (u2 + 65536 * t + 1) ≤ P * (65536 * (t + 1)) := Int.mul_le_mul_of_nonneg_left (by omega) (by omega)
  have h2 : U < P * (65536 * (t + 1)) := by
    have : P * (u2 + 65536 * t + 1) = P * (u2 + 65536 * t) + P := by rw [Int.mul_add]; omega
    omega
  have h3 : t + 1 ≤ (q + 1) * v1 := by rw [Int.add_mul]; omega
  have h4 : P * (65536 * (t + 1)) ≤ P * (65536 * ((q + 1) * v1)) := Int.mul_le_mul_of_nonneg_left (by omega) (by omega)
  have h5 : (q + 1) * (P * (65536 * v1)) ≤ (q + 1) * V := by
    refine Int.mul_le_mul_of_nonneg_left ?_ (by omega)
    rw [hV, Int.mul_add]
    have := Int.mul_nonneg (Int.le_of_lt hP) hv2
    omega
  have e : P * (65536 * ((q + 1) * v1)) = (q + 1) * (P * (65536 * v1)) := by grind
  omega
theorem kn_big {U V q : Int} (h : U < V * 65536) (hV : 0 ≤ V) (hq : 65536 ≤ q) : U < q * V := by
  have := Int.mul_le_mul_of_nonneg_right hq hV
  grind
theorem kn_dec {U V P t v1 q r v0 v2 u0 u2 : Int} (hU : U = u0 + P * (u2 + 65536 * t)) (hV : V = v0 + P * (v2 + 65536 * v1)) (hP : 0 < P) (hu0 : u0 < P) (hv0 : 0 ≤ v0)
    (hq : 0 ≤ q) (hqr : q * v1 + r = t) (h : r * 65536 + u2 < q * v2) : U < q * V := by
  have h1 : q * V = q * v0 + P * (q * v2 + 65536 * (q * v1)) := by rw [hV]; grind
  have h2 := Int.mul_nonneg hq hv0
  have h3 : P * (u2 + 65536 * t + 1) ≤ P * (q * v2 + 65536 * (q * v1)) := Int.mul_le_mul_of_nonneg_left (by omega) (by omega)
  have h4 : P * (u2 + 65536 * t + 1) = P * (u2 + 65536 * t) + P := by rw [Int.mul_add]; omega
  omega
theorem kn_top {U V P t v1 v0 v2 u0 u2 : Int} (hU : U = u0 + P * (u2 + 65536 * t)) (hV : V = v0 + P * (v2 + 65536 * v1)) (hP : 0 < P) (hu0 : 0 ≤ u0) (hu2 : 0 ≤ u2) (hv0 : v0 < P) (hv2 : v2 < 65536)
    (h : U < V * 65536) : t < v1 * 65536 + 65536 := by
  have h1 : P * (v2 + 65536 * v1 + 1) = P * (v2 + 65536 * v1) + P := by rw [Int.mul_add]; omega
  have h2 : P * (v2 + 65536 * v1 + 1) ≤ P * (65536 * (v1 + 1)) := Int.mul_le_mul_of_nonneg_left (by omega) (by omega)
  have h3 : V < P * (65536 * (v1 + 1)) := by omega
  have h4 : P * (u2 + 65536 * t) = P * u2 + P * (65536 * t) := Int.mul_add _ _ _
  have h5 := Int.mul_nonneg (Int.le_of_lt hP) hu2
  have h6 : P * (65536 * t) < P * (65536 * (v1 + 1)) * 65536 := by omega
  have h7 : P * (65536 * (v1 + 1)) * 65536 = P * (65536 * ((v1 + 1) * 65536)) := by grind
  rw [h7] at h6
  have := Int.lt_of_mul_lt_mul_left h6 (Int.le_of_lt hP)
  omega
theorem kn_exit {U V P t v1 q r v0 v2 u0 u2 : Int} (hU : U = u0 + P * (u2 + 65536 * t)) (hV : V = v0 + P * (v2 + 65536 * v1)) (hP : 0 < P) (hu0 : 0 ≤ u0) (hv0 : 0 ≤ v0 ∧ v0 < P) (hv1 : 0 < v1) (hv2 : 0 ≤ v2 ∧ v2 < 65536) (hu2 : 0 ≤ u2)
    (hq : 0 ≤ q) (hq' : q ≤ 65536) (hqr : q * v1 + r = t) (h : 65536 ≤ r ∨ q * v2 ≤ r * 65536 + u2) : q * V ≤ U + V := by
  have h0 : q * v2 ≤ r * 65536 + u2 := by
    rcases h with h | h
    · have := Int.mul_le_mul hq' (show v2 ≤ 65536 by omega) hv2.1 (by omega)
      omega
    · exact h
  have h1 : q * V = q * v0 + P * (q * v2 + 65536 * (q * v1)) := by rw [hV]; grind
  have h2 : P * (q * v2 + 65536 * (q * v1)) ≤ P * (u2 + 65536 * t) := Int.mul_le_mul_of_nonneg_left (by omega) (by omega)
  have h3 : q * v0 ≤ 65536 * P := Int.mul_le_mul hq' (by omega) hv0.1 (by omega)
  have h4 : P * (65536 * 1) ≤ P * (v2 + 65536 * v1) := Int.mul_le_mul_of_nonneg_left (by omega) (by omega)
  omega
/-- The digit, when q is it or one more. -/
theorem kn_quo {U V q : Int} (h1 : q * V ≤ U + V) (h2 : U < (q + 1) * V) : (q * V ≤ U → 0 ≤ U - q * V ∧ U - q * V < V) ∧ (U < q * V → 0 ≤ U - (q - 1) * V ∧ U - (q - 1) * V < V) := by
  have e1 : (q + 1) * V = q * V + V := by rw [Int.add_mul]; omega
  have e2 : (q - 1) * V = q * V - V := by rw [Int.sub_mul]; omega
  rw [e1] at h2
  rw [e2]
  omega
theorem div_unique {A B q r : Int} (h : A = q * B + r) (h1 : 0 ≤ r) (h2 : r < B) : A / B = q ∧ A % B = r := by
  have hq : A / B = q := by
    rw [h, Int.add_comm, Int.add_mul_ediv_right _ _ (by omega), Int.ediv_eq_zero_of_lt h1 h2]; omega
  refine ⟨hq, ?_⟩
  have := Int.mul_ediv_add_emod A B
  rw [hq, Int.mul_comm] at this
  omega

/-! ### Results as plain values -/

def leafPV : RS → PV
  | .pv r => r
  | .row es _ _ => .sl es
  | _ => .sl []
def wk1 : RS → RS
  | .row es _ _ => .pv (.sl es)
  | r => r
def wk2 : RS → RS
  | .ag ls => .pv (.agg (ls.map leafPV))
  | r => wk1 r
def wkS : RS → RS
  | .tup ls => .tup (ls.map wk2)
  | r => wk2 r

theorem leaf_ok {w : World} {ok ok2 : Nat → Prop} {r : RS} {v : Value} {N : List Nat} (h : RCl1 w ok r v N) (h1 : ∀ b, ok b → ok2 b) (h2 : ∀ b ∈ N, ok2 b) : ∃ F, Rep w (leafPV r) v F ∧ ∀ b ∈ F, ok2 b := by
  cases r with
  | pv r => obtain ⟨_, F, h3, h4⟩ := h; exact ⟨F, h3, fun b hb => h1 b (h4 b hb)⟩
  | row es sz u =>
    rcases h with ⟨b, c, e, cap, F, rfl, rfl, h3, h4, h5, h6, h7, _, _, h8⟩ | ⟨rfl, rfl, a, rfl⟩ | ⟨z, zs, rfl, b, c, e, cap, N', rfl, rfl, h3, h4, h5, h6, h7⟩
    · by_cases hes : es = []
      · subst hes; exact ⟨[], .nil _ _, by simp⟩
      · exact ⟨b :: F, .sl hes h3 h7, fun x hx => (List.mem_cons.1 hx).elim (fun e => by rw [e]; exact h2 b (by simp)) (fun hx => h1 x (h8 x hx))⟩
    · exact ⟨[], .nil _ _, by simp⟩
    · obtain ⟨F, h8, h9⟩ := h7.rep
      by_cases hes : es = []
      · subst hes; exact ⟨[], .nil _ _, by simp⟩
      · exact ⟨b :: F, .sl hes h3 h8, fun x hx => (List.mem_cons.1 hx).elim (fun e => by rw [e]; exact h2 b (by simp)) (fun hx => (h9 x hx).elim (fun h => h2 x (by simp [h])) (fun h => h.elim))⟩
  | ag ls => exact h.elim
  | tup ls => exact h.elim
  | vw p o l => exact h.elim

theorem wk1_ok {w : World} {ok ok2 : Nat → Prop} {r : RS} {v : Value} {N : List Nat} (h : RCl1 w ok r v N) (h1 : ∀ b, ok b → ok2 b) (h2 : ∀ b ∈ N, ok2 b) : RCl1 w ok2 (wk1 r) v [] := by
  obtain ⟨F, h3, h4⟩ := leaf_ok h h1 h2
  cases r with
  | pv r => exact ⟨rfl, F, h3, h4⟩
  | row es sz u => exact ⟨rfl, F, h3, h4⟩
  | ag ls => exact h.elim
  | tup ls => exact h.elim
  | vw p o l => exact h.elim

theorem leaves_ok {w : World} {ok ok2 : Nat → Prop} (h1 : ∀ b, ok b → ok2 b) : ∀ {ls : List RS} {vs : List Value} {N : List Nat}, RAll (RCl1 w ok) ls vs N → (∀ b ∈ N, ok2 b) → ∃ F, RepL w (ls.map leafPV) vs F ∧ ∀ b ∈ F, ok2 b
  | _, _, _, .nil, _ => ⟨[], .nil, by simp⟩
  | x :: _, _, _, .cons h t, h2 => by
    obtain ⟨F, h3, h4⟩ := leaf_ok h h1 (fun b hb => h2 b (by simp [hb]))
    obtain ⟨G, h5, h6⟩ := leaves_ok h1 t (fun b hb => h2 b (by simp [hb]))
    exact ⟨F ++ G, .cons h3 h5, fun b hb => (List.mem_append.1 hb).elim (h4 b) (h6 b)⟩

theorem wk2_ok {w : World} {ok ok2 : Nat → Prop} {r : RS} {v : Value} {N : List Nat} (h : RCl2 w ok r v N) (h1 : ∀ b, ok b → ok2 b) (h2 : ∀ b ∈ N, ok2 b) : RCl2 w ok2 (wk2 r) v [] := by
  cases r with
  | pv r => exact wk1_ok (r := .pv r) h h1 h2
  | row es sz u => exact wk1_ok (r := .row es sz u) h h1 h2
  | ag ls =>
    obtain ⟨cs, rfl, h⟩ := h
    obtain ⟨F, h3, h4⟩ := leaves_ok h1 h h2
    exact ⟨rfl, F, .agg h3, h4⟩
  | tup ls => exact h.elim
  | vw p o l => exact h.elim

theorem wkl_ok {w : World} {ok ok2 : Nat → Prop} (h1 : ∀ b, ok b → ok2 b) : ∀ {ls : List RS} {vs : List Value} {N : List Nat}, RAll (RCl2 w ok) ls vs N → (∀ b ∈ N, ok2 b) → RAll (RCl2 w ok2) (ls.map wk2) vs []
  | _, _, _, .nil, _ => .nil
  | x :: _, _, _, .cons h t, h2 => RAll.cons (N := []) (wk2_ok h h1 (fun b hb => h2 b (by simp [hb]))) (wkl_ok h1 t (fun b hb => h2 b (by simp [hb])))

theorem wkS_ok {w : World} {V : Nat → Nat → Nat → Value → Prop} {ok ok2 : Nat → Prop} {r : RS} {v : Value} {N : List Nat} (h : RClS w V ok r v N) (h1 : ∀ b, ok b → ok2 b) (h2 : ∀ b ∈ N, ok2 b) : RClS w V ok2 (wkS r) v [] := by
  cases r with
  | pv r => exact wk2_ok (r := .pv r) h h1 h2
  | row es sz u => exact wk2_ok (r := .row es sz u) h h1 h2
  | ag ls => exact wk2_ok (r := .ag ls) h h1 h2
  | tup ls =>
    obtain ⟨cs, rfl, h⟩ := h
    exact ⟨cs, rfl, wkl_ok h1 h h2⟩
  | vw p o l => exact ⟨rfl, h.2⟩

/-- What a call hands back, read only. -/
theorem Does.wk {P : Program} {f : FuncId} {args : List PV} {rs : RS} {outs : List PV} (h : Does P f args rs outs) : Does P f args (wkS rs) outs := by
  intro w vs Fs ha
  refine Calls.mono (h w vs Fs ha) (fun e w' => ?_)
  rintro ⟨v, rfl, hp⟩
  refine ⟨v, rfl, ?_⟩
  obtain ⟨N, n1, n2, n3⟩ := hp.res
  exact { hp with res := ⟨[], List.nodup_nil, by simp, wkS_ok n3 (fun b hb => ⟨hb.1, by simp, hb.2.2⟩) (fun b hb => ⟨(n2 b hb).2, by simp, .inl (n2 b hb).1⟩)⟩ }

/-! ### Numbers -/

/-- A row of limbs, without noughts at its end, of the number n. -/
def Num (es : List PV) (n : Int) : Prop := ∃ l : List Int, es = l.map i64 ∧ Can l ∧ ev l = n

theorem Num.ex {n : Int} (h : 0 ≤ n) : ∃ es, Num es n := by
  obtain ⟨l, h1, h2⟩ := can_ex n.toNat n h (by omega)
  exact ⟨_, l, rfl, h1, h2⟩
theorem Num.nonneg {es : List PV} {n : Int} (h : Num es n) : 0 ≤ n := by
  obtain ⟨l, _, h1, rfl⟩ := h
  exact h1.1.bound.1
theorem Num.inj {a b : List PV} {n : Int} (h : Num a n) (k : Num b n) : a = b := by
  obtain ⟨l, rfl, h1, h2⟩ := h
  obtain ⟨m, rfl, h3, h4⟩ := k
  rw [Can.inj h1 h3 (by omega)]
theorem Num.zero {a : List PV} {n : Int} (h : Num a n) : a = [] ↔ n = 0 := by
  obtain ⟨l, rfl, h1, rfl⟩ := h
  rw [← h1.zero]; simp
theorem i64_inj {x y : Int} (h : i64 x = i64 y) : x = y := by injection h with h; injection h
theorem map_i64_inj {a b : List Int} (h : a.map i64 = b.map i64) : a = b := (List.map_inj_right (fun _ _ => i64_inj)).1 h
theorem Num.lims {l : List Int} {n : Int} (h : Num (l.map i64) n) : Can l ∧ ev l = n := by
  obtain ⟨m, h1, h2, h3⟩ := h
  rw [map_i64_inj h1]; exact ⟨h2, h3⟩
theorem Num.of {l : List Int} {n : Int} (h : Can l) (h2 : ev l = n) : Num (l.map i64) n := ⟨l, rfl, h, h2⟩

/-- A number with a sign: the sign's flag, the limbs. -/
def iabs (z : Int) : Int := if z < 0 then -z else z
def Big (s : Bool) (es : List PV) (z : Int) : Prop := Num es (iabs z) ∧ s = decide (z < 0)
theorem Big.ex (z : Int) : ∃ s es, Big s es z := by
  obtain ⟨es, h⟩ := Num.ex (n := iabs z) (by unfold iabs; split <;> omega)
  exact ⟨_, es, h, rfl⟩
theorem Big.inj {s t : Bool} {a b : List PV} {z : Int} (h : Big s a z) (k : Big t b z) : s = t ∧ a = b := ⟨by rw [h.2, k.2], h.1.inj k.1⟩
def sg (s : Bool) (n : Int) : Int := if s then -n else n
theorem Big.of {s : Bool} {es : List PV} {n : Int} (h : Num es n) : Big (s && decide (0 < n)) es (sg s n) := by
  have := h.nonneg
  refine ⟨?_, ?_⟩
  · have e : iabs (sg s n) = n := by unfold iabs sg; (repeat' split) <;> omega
    rw [e]; exact h
  · unfold sg
    cases s
    · simp only [Bool.false_and, Bool.false_eq_true, if_false]; symm; simp; omega
    · simp only [Bool.true_and, if_true]; rw [decide_eq_decide]; omega
theorem Big.val {s : Bool} {es : List PV} {z : Int} (h : Big s es z) : z = sg s (iabs z) := by
  rw [h.2]; unfold sg iabs; by_cases h0 : z < 0
  · simp [h0]
  · simp [h0]

def limOk (x : Int) : Bool := decide (0 ≤ x) && decide (x ≤ 65535)
def lastOk (l : List Int) : Bool := match l.getLast? with
  | some x => decide (x ≠ 0)
  | none => true
def goodB (s : Bool) (l : List Int) : Bool := l.all limOk && (decide (l.length ≤ 40) && lastOk l && !(s && decide (l = [])))
theorem lim_all {l : List Int} : l.all limOk = true ↔ Lim l := by
  rw [List.all_eq_true]
  unfold limOk Lim
  simp only [Bool.and_eq_true, decide_eq_true_eq]
  exact ⟨fun h x hx => by have := h x hx; omega, fun h x hx => by have := h x hx; omega⟩
theorem goodB_iff {s : Bool} {l : List Int} : goodB s l = true ↔ Can l ∧ l.length ≤ 40 ∧ (l = [] → s = false) := by
  unfold goodB Can
  simp only [Bool.and_eq_true, lim_all, decide_eq_true_eq, Bool.not_eq_true', Bool.and_eq_false_imp, decide_eq_false_iff_not]
  have : lastOk l = true ↔ ∀ x, l.getLast? = some x → x ≠ 0 := by
    unfold lastOk
    cases h : l.getLast? with
    | none => simp
    | some x => simp
  rw [this]
  constructor
  · rintro ⟨h1, ⟨h2, h3⟩, h4⟩
    exact ⟨⟨h1, h3⟩, h2, fun h => by cases s with
      | false => rfl
      | true => exact absurd h (h4 rfl)⟩
  · rintro ⟨⟨h1, h3⟩, h2, h4⟩
    exact ⟨h1, ⟨h2, h3⟩, fun h h' => by rw [h4 h'] at h; cases h⟩
theorem goodB_big {s : Bool} {l : List Int} (h : goodB s l = true) : Big s (l.map i64) (sg s (ev l)) ∧ l.length ≤ 40 := by
  obtain ⟨h1, h2, h3⟩ := goodB_iff.1 h
  have := Big.of (s := s) (Num.of h1 rfl)
  have e : (s && decide (0 < ev l)) = s := by
    cases s with
    | false => rfl
    | true =>
      have : l ≠ [] := fun e => by have := h3 e; cases this
      have := h1.pos this
      simp [this]
  rw [e] at this
  exact ⟨this, h2⟩

theorem wid_i64 {l : List Int} {fl : Bool} : ∀ x ∈ l.map i64, (leaves x).length = 1 ∧ (fl = true → isFree x = true) := by
  intro x hx; obtain ⟨y, _, rfl⟩ := List.mem_map.1 hx; exact ⟨rfl, fun _ => rfl⟩

/-! ### More rules -/

section rules
variable {P : Program} {A : Ar} (hA : stdA P = A)
include hA

theorem Ar.slN_ {l : List PV} {o a b : Nat} {K : List PV → Prop} (h : ∀ r, r = (l.drop o).take (a - b) → K r) : A.row (A.sub l o (A.subN a b)) K := by subst hA; exact h _ rfl
theorem Ar.remk {k : IntKind} {a b : Int} {K : Int → Prop} (h1 : 0 ≤ a) (h : ∀ r, r = a % b → K r) : A.int (A.divi .rem k a b) K := by
  subst hA
  refine h _ ?_
  show a.tmod b = _
  rw [Int.tmod_eq_emod_of_nonneg h1]
theorem Ar.quoU {a b : Int} {K : Int → Prop} (h1 : 0 ≤ a ∧ a < 18446744073709551616 ∧ 0 < b) (h : ∀ r, r = a / b → K r) : A.int (A.divi .quo .u64 a b) K := by
  subst hA
  refine h _ ?_
  show IntKind.u64.wrap (a.tdiv b) = _
  rw [Int.tdiv_eq_ediv_of_nonneg h1.1, IntKind.wrap_u64]
  have h2 : 0 ≤ a / b := Int.ediv_nonneg h1.1 (by omega)
  have h3 : a / b ≤ a := Int.ediv_le_self b h1.1
  exact Int.emod_eq_of_lt h2 (by omega)
theorem Ar.negU {a : Int} {K : Int → Prop} (h : ∀ r, r = (0 - a) % 18446744073709551616 → K r) : A.int (A.neg .u64 a) K := by
  subst hA; exact h _ (by show IntKind.u64.wrap (0 - a) = _; rw [IntKind.wrap_u64])
theorem Ar.convU {n : Int} {K : Int → Prop} (h : ∀ r, r = n % 18446744073709551616 → K r) : A.int (A.conv .u64 n) K := by
  subst hA; exact h _ (by show IntKind.u64.wrap n = _; rw [IntKind.wrap_u64])
end rules

end Go.VAI
