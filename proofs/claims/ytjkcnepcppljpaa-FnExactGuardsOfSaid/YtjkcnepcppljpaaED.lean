/- slices.Delete of one element. -/
import Derived.Test.YtjkcnepcppljpaaEB
namespace Go.VAI
open Go.Proofs
set_option maxRecDepth 100000
set_option maxHeartbeats 8000000

theorem Ar.rngL_ {P : Program} {A : Ar} (hA : stdA P = A) {l h : Nat} {es : List PV} {K : Unit → Prop} (h1 : l ≤ h ∧ h ≤ es.length) (hK : K ()) : A.rng l h (A.len es) K := by
  subst hA; exact ⟨h1.1, h1.2, hK⟩
theorem Ar.rngA_ {P : Program} {A : Ar} (hA : stdA P = A) {o l : Nat} {ys es : List PV} {K : Unit → Prop} (h1 : o + l + ys.length ≤ es.length) (hK : K ()) : A.rng 0 (A.addN (A.addN o l) (A.len ys)) (A.len es) K := by
  subst hA; exact ⟨Nat.zero_le _, h1, hK⟩
theorem Ar.splA_ {P : Program} {A : Ar} (hA : stdA P = A) {l ys : List PV} {a b : Nat} {K : List PV → Prop} (h : ∀ r, r = l.take (a + b) ++ ys ++ l.drop (a + b + ys.length) → K r) : A.row (A.spl l (A.addN a b) ys) K := by
  subst hA; exact h _ rfl
theorem Ar.addL_ {P : Program} {A : Ar} (hA : stdA P = A) {a : Nat} {ys : List PV} {K : Nat → Prop} (h : ∀ r : Nat, r = a + ys.length → K r) : A.nat (A.addN a (A.len ys)) K := by
  subst hA; exact h _ rfl
theorem Ar.subL_ {P : Program} {A : Ar} (hA : stdA P = A) {a : Nat} {ys : List PV} {K : Nat → Prop} (h : ∀ r : Nat, r = ys.length - a → K r) : A.nat (A.subN (A.len ys) a) K := by
  subst hA; exact h _ rfl
theorem Ar.splR_ {P : Program} {A : Ar} (hA : stdA P = A) {l : List PV} {o m : Nat} {z : PV} {K : List PV → Prop} (h : ∀ r, r = l.take o ++ List.replicate m z ++ l.drop (o + m) → K r) : A.row (A.spl l o (A.rep m z)) K := by
  subst hA
  refine h _ ?_
  show l.take o ++ List.replicate m z ++ l.drop (o + (List.replicate m z).length) = _
  rw [List.length_replicate]

theorem del_row {es ys r r1 : List PV} {left : List Nat} {i m k : Nat} (hes : es = left.map nI) (hi : i < left.length) (hy : ys = es.drop (i + 1)) (hr : r = es.take i ++ ys ++ es.drop (i + ys.length)) (hm : m = i + ys.length) (hk : k = left.length - m)
    (h1 : r1 = r.take m ++ List.replicate k (i64 0) ++ r.drop (m + k)) : r1 = (left.eraseIdx i ++ [0]).map nI := by
  have hlen : es.length = left.length := by simp [hes]
  have hyl : ys.length = left.length - (i + 1) := by rw [hy, List.length_drop, hlen]
  have e1 : r.take m = es.take i ++ ys := by
    rw [hr, List.take_append_of_le_length (by simp; omega), List.take_of_length_le (by simp; omega)]
  have e2 : r.drop (m + k) = [] := by
    rw [List.drop_eq_nil_of_le]
    rw [hr]; simp; omega
  rw [h1, e1, e2, show k = 1 by omega, List.append_nil, List.eraseIdx_eq_take_drop_succ, hy, hes]
  simp [nI]

theorem c_slices_Delete_int_int : Callable Try.prog 55 := ⟨_, Try.func55, rfl, by kernel_rfl⟩
theorem d_slices_Delete_int_int {es : List PV} {left : List Nat} {i j : Int} (hes : es = left.map nI) (hb : left.length ≤ 12) (hi : 0 ≤ i ∧ i.toNat < left.length) (hj : j = i + 1) : Does Try.prog 55 [.sl es, i64 i, i64 j] (.vw 0 0 (left.length - 1)) [.sl ((left.eraseIdx i.toNat ++ [0]).map nI)] := by
  refine does_of hT hM Try.func55 rfl (D := []) (by kernel_rfl) rfl rfl rfl (fun A K hA hK => ?_)
  have hlen : es.length = left.length := by simp [hes]
  have hyes : ∀ k r, k = left.length - 1 → r = (left.eraseIdx i.toNat ++ [0]).map nI → K (.vw 0 0 k) [.sl r] := fun k r h1 h2 => hK _ _ (by rw [h1]) (by rw [h2])
  clear hK
  cbv
  refine Ar.len_ hA (fun n hn hn' => ?_)
  cbv
  repeat' (first
    | (refine Ar.nn_ hA (by omega) ?_; cbv)
    | (refine Ar.toN_ hA (fun q hq => ?_); cbv)
    | (refine Ar.rng_ hA (by omega) ?_; cbv)
    | (refine Ar.rngL_ hA (by omega) ?_; cbv))
  refine Ar.eql_ hA (fun h => absurd h (by omega)) (fun _ => ?_)
  cbv
  refine Ar.len_ hA (fun n2 hn2 hn2' => ?_)
  cbv
  repeat' (first
    | (refine Ar.nn_ hA (by omega) ?_; cbv)
    | (refine Ar.toN_ hA (fun q hq => ?_); cbv)
    | (refine Ar.lenN_ hA (fun q hq => ?_); cbv)
    | (refine Ar.subN_ hA (fun q hq => ?_); cbv)
    | (refine Ar.rng_ hA (by omega) ?_; cbv))
  refine Ar.sl_ hA (fun ys hys => ?_)
  rw [List.take_of_length_le (by simp; omega)] at hys
  have hyl : ys.length = left.length - (i.toNat + 1) := by rw [hys, List.length_drop]; omega
  cbv
  refine Ar.rngA_ hA (by omega) ?_
  cbv
  refine Ar.splA_ hA (fun r hr => ?_)
  have hrl : r.length = left.length := by rw [hr]; simp; omega
  cbv
  refine Ar.addL_ hA (fun m hm => ?_)
  cbv
  refine Ar.ofN_ hA (fun m1 hm1 hm1' => ?_)
  cbv
  repeat' (first
    | (refine Ar.nn_ hA (by omega) ?_; cbv)
    | (refine Ar.toN_ hA (fun q hq => ?_); cbv)
    | (refine Ar.subL_ hA (fun q hq => ?_); cbv)
    | (refine Ar.subN_ hA (fun q hq => ?_); cbv)
    | (refine Ar.addN_ hA (fun q hq => ?_); cbv)
    | (refine Ar.rng_ hA (by omega) ?_; cbv))
  refine Ar.splR_ hA (fun r1 hr1 => ?_)
  have hr1l : r1.length = left.length := by rw [hr1]; simp only [List.length_append, List.length_take, List.length_drop, List.length_replicate]; omega
  have ey : ys = es.drop (i.toNat + 1) := by rw [hys]; congr 1; omega
  have er : r = es.take i.toNat ++ ys ++ es.drop (i.toNat + ys.length) := by rw [hr]; congr 3 <;> omega
  have e1 : r1 = r.take m ++ List.replicate (left.length - m) (i64 0) ++ r.drop (m + (left.length - m)) := by rw [hr1]; congr 3 <;> omega
  have fin := del_row hes hi.2 ey er (by omega) rfl e1
  clear hr1 hr hys ey er e1
  cbv
  refine Ar.same_ hA (by omega) ?_
  cbv
  exact hyes _ _ (by omega) fin

end Go.VAI
