/- A long body taken in parts; what is no longer asked for is forgotten. -/
import Derived.Test.YtialfhjffkoakaaGreatB
namespace Go.VAI
open Go.Proofs
set_option maxRecDepth 100000
set_option maxHeartbeats 8000000

def seqTake : Nat → Code → Code
  | 0, _ => .skip
  | k + 1, .seq a b => .seq a (seqTake k b)
  | _ + 1, c => c
def seqDrop : Nat → Code → Code
  | 0, c => c
  | k + 1, .seq _ b => seqDrop k b
  | _ + 1, _ => .skip
abbrev cutK (K1 : St → Prop) (K : Ex → St → Prop) : Ex → St → Prop := fun ex σ' => match ex with
  | .normal => K1 σ'
  | .exit i => K (.exit i) σ'
  | .ret => K .ret σ'
theorem cutK_self {K : Ex → St → Prop} : cutK (K .normal) K = K := by
  funext ex σ'; cases ex <;> rfl
theorem awp_cut {A : Ar} {D : List (Nat × List Nat)} (k : Nat) : ∀ (c : Code) (K : Ex → St → Prop) (σ : St), awp A D (seqTake k c) (cutK (fun σ' => awp A D (seqDrop k c) K σ') K) σ = awp A D c K σ := by
  induction k with
  | zero => intro c K σ; rfl
  | succ k ih =>
    intro c K σ
    cases c with
    | seq a b =>
      show awp A D a (fun ex σ' => match ex with
        | .normal => awp A D (seqTake k b) (cutK (fun σ' => awp A D (seqDrop k b) K σ') K) σ'
        | .exit i => K (.exit i) σ'
        | .ret => K .ret σ') σ = awp A D a (fun ex σ' => match ex with
        | .normal => awp A D b K σ'
        | .exit i => K (.exit i) σ'
        | .ret => K .ret σ') σ
      congr 1
      funext ex σ'
      cases ex with
      | normal => exact ih b K σ'
      | exit i => rfl
      | ret => rfl
    | _ => exact congrFun (congrArg (awp A D _) (cutK_self (K := K))) σ
theorem awp_cutV {A : Ar} {D : List (Nat × List Nat)} {c : Code} {K : Ex → St → Prop} {σ : St} (k : Nat) (h : ∀ K1 : St → Prop, K1 = (fun σ' => awp A D (seqDrop k c) K σ') → awp A D (seqTake k c) (cutK K1 K) σ) : awp A D c K σ := by
  rw [← awp_cut k c K σ]; exact h _ rfl
/-- Of the state nothing is kept but these slots and files. -/
theorem awp_flat {A : Ar} {D : List (Nat × List Nat)} {c : Code} {K : Ex → St → Prop} {K1 : St → Prop} {σ : St} (hK1 : K1 = (fun σ' => awp A D c K σ')) (ks js : List Nat) (h : ∀ s f, awp A D c K ⟨σ.n, updL s (ks.map fun k => (k, σ.slots k)), updL f (js.map fun j => (j, σ.files j))⟩) : K1 σ := by
  rw [hK1]
  have e1 : ∀ ks : List Nat, updL σ.slots (ks.map fun k => (k, σ.slots k)) = σ.slots := fun ks => atL_eq (by induction ks with
    | nil => trivial
    | cons k ks ih => exact ⟨rfl, ih⟩)
  have e2 : ∀ ks : List Nat, updL σ.files (ks.map fun k => (k, σ.files k)) = σ.files := fun ks => atL_eq (by induction ks with
    | nil => trivial
    | cons k ks ih => exact ⟨rfl, ih⟩)
  have := h σ.slots σ.files
  rw [e1, e2] at this
  exact this
def stK (F : St → Prop) (σ : St) : Prop := F σ
/-- The same, for a continuation that is not looked into. -/
theorem flatK {K1 : St → Prop} {σ : St} (ks js : List Nat) (h : ∀ s f, stK K1 ⟨σ.n, updL s (ks.map fun k => (k, σ.slots k)), updL f (js.map fun j => (j, σ.files j))⟩) : K1 σ := by
  have e1 : ∀ ks : List Nat, updL σ.slots (ks.map fun k => (k, σ.slots k)) = σ.slots := fun ks => atL_eq (by induction ks with
    | nil => trivial
    | cons k ks ih => exact ⟨rfl, ih⟩)
  have e2 : ∀ ks : List Nat, updL σ.files (ks.map fun k => (k, σ.files k)) = σ.files := fun ks => atL_eq (by induction ks with
    | nil => trivial
    | cons k ks ih => exact ⟨rfl, ih⟩)
  have := h σ.slots σ.files
  rw [e1, e2] at this
  exact this
/-- Keeps a statement yet unknown from the eyes of omega. -/
structure HoldU (p : Prop) : Prop where
  it : p
theorem shareU {p X : Prop} (h : p) (k : HoldU p → X) : X := k ⟨h⟩
theorem abod_awp {A : Ar} {D : List (Nat × List Nat)} {f : FuncId} {n : Nat} {ps : List Nat} {rv : List ResultVar} {c : Code} {args : List PV} {K : RS → List PV → Prop} (hc : args.length ≤ n ∧ Nat.blt (inout f).length 2 ∧ (inout f).all (lentOk ps (ioSz f) args))
    (h : awp A D c (fun ex σ => match ex with
    | .exit _ => False
    | _ => (match resultS A σ rv with
      | some rs => if vwIn (inout f) args rs then outsS A σ args (ioDp f) (fun outs => K rs outs) (inout f) else False
      | none => False)) (start n ps (inout f) (ioSz f) (ioDp f) args)) : abod A D f n ps rv c args K := by
  unfold abod; rw [if_pos hc]; exact h

end Go.VAI
