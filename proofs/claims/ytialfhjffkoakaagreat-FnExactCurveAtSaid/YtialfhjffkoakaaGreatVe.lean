import Derived.Test.YtialfhjffkoakaaGreatVc
import Derived.LoopN
namespace Go.VAI
variable {E : Env} {P : Program}

section ops
variable {M : Mp} {σ : St} {a : Act} {w : World} {o : Oper} {K : St → Prop} {Q : Exit → Act → World → Prop}

theorem op_store (hT : TTok P) (hg : G E M σ a w) (hd : o.dst.all (fun d => Nat.blt d σ.n) = true) {t : Nat} {x y : Operand} (hop : o.op = .store t x y) {i : TI} (ht : tt t = some i)
    (h : storeS (stdA P) σ i (eval σ x) (eval σ y) (fun σ' => K (putO σ' o.dst .undef))) : o.wp P a w (Nx E K) Q := by
  unfold storeS at h
  split at h
  · rename_i id p he
    split at h
    · rename_i ls hf
      split at h
      · rename_i hl
        exact op_store_ref hT hg hd hop ht he hf hl h
      · exact h.elim
    · exact h.elim
  · rename_i id q p he
    split at h
    · rename_i es sz u io r hf hr
      split at h
      · rename_i js hab
        obtain ⟨z, hz, h⟩ := h
        split at h
        · rename_i hl
          split at h
          · rename_i z' hz'
            unfold absorbs at hab
            split at hab
            · split at hab
              · rename_i htk
                split at hab
                · rename_i hq
                  cases hab
                  simp only [Bool.and_eq_true, Bool.not_eq_true'] at hq
                  exact op_store_absorb hT hg hd hop ht he hf htk (nodupN_iff.1 hq.1) (by simpa using hq.2) hr hz hl hz' h
                · cases hab
              · cases hab
            · cases hab
          · exact h.elim
        · exact h.elim
      obtain ⟨z, hz, h⟩ := h
      split at h
      · rename_i hl
        split at h
        · rename_i z' hz'
          exact op_store_rref hT hg hd hop ht he hf hr hz hl hz' h
        · exact h.elim
      · exact h.elim
    · exact h.elim
  · exact h.elim

theorem dst_put {d : Nat} {s : Slot} (h : o.dst = some d) : putO σ o.dst s = put σ d s := by rw [h]; rfl

theorem aopI_ok (hT : TTok P) (hg : G E M σ a w) (hd : o.dst.all (fun d => Nat.blt d σ.n) = true) (h : aopI (stdA P) o σ K) : o.wp P a w (Nx E K) Q := by
  have mv : ∀ x, o.op = .move x ∨ o.op = .assign x → (if isNilSl x then (match o.dst, elemOf o.type with
      | some d, some (_, e) => mkF (stdA P) σ d (fun σ => K (put (putF σ d (.row [] e.size .free false)) d (.own d none)))
      | _, _ => False) else K (putO σ o.dst (eval σ x))) → o.wp P a w (Nx E K) Q := by
    intro x hop h
    split at h
    · rename_i hx
      split at h
      · rename_i d e0 e hdst hel
        exact op_nil hg hd hop hx hdst h
      · exact h.elim
    · exact op_move hg hd hop h
  unfold aopI at h
  cases hop : o.op with
  | move x => simp only [hop] at h; exact mv x (.inl hop) h
  | assign x => simp only [hop] at h; exact mv x (.inr hop) h
  | pick c x y =>
    simp only [hop] at h
    split at h
    · rename_i t ht
      refine op_pick hg hd hop ht ?_
      cases t <;> exact h
    · exact h.elim
  | alloc t =>
    simp only [hop] at h
    split at h
    · rename_i d i hdst ht
      exact op_alloc hT hg hd hop hdst ht h
    · exact h.elim
  | box t x =>
    simp only [hop] at h
    split at h
    · rename_i d i hdst ht
      exact op_box hT hg hd hop hdst ht h
    · exact h.elim
  | build t ps =>
    simp only [hop] at h
    split at h
    · rename_i d i hdst ht
      split at h
      · rename_i ls hls
        split at h
        · rename_i hag; exact op_build hT hg hd hop hdst ht hls hag h
        · exact h.elim
      · exact h.elim
    · exact h.elim
  | buildSlice t n ps =>
    simp only [hop] at h
    split at h
    · rename_i d e i hdst ht
      split at h
      · rename_i hn; exact op_buildSlice hT hg hd hop hdst ht hn h
      · exact h.elim
    · exact h.elim
  | load t x =>
    simp only [hop] at h
    split at h
    · rename_i i ht; exact op_load hT hg hd hop ht h
    · exact h.elim
  | store t x y =>
    simp only [hop] at h
    split at h
    · rename_i i ht; exact op_store hT hg hd hop ht h
    · exact h.elim
  | binOp op t x y t' =>
    simp only [hop] at h
    split at h
    · rename_i hy
      split at h
      · rename_i p he
        obtain ⟨e, i⟩ := p
        exact op_nilCmp hT hg hd hop hy he h
      · exact h.elim
    · exact op_binOp hT hg hd hop h
  | unOp op t x =>
    simp only [hop] at h
    exact op_unOp hg hd hop h
  | convert t' t x =>
    simp only [hop] at h
    split at h
    · rename_i i' hi'; exact op_convert hT hg hd hop hi' h
    · exact h.elim
  | makeFunc fn first caps =>
    cases fn with
    | func f =>
      simp only [hop] at h
      split at h
      · rename_i hf; exact op_makeFunc hg hd hop hf h
      · exact h.elim
    | _ => simp only [hop] at h
  | makeSlice t l c =>
    simp only [hop] at h
    split at h
    · rename_i d e i k n hdst ht hn
      split at h
      · rename_i hs
        split at h
        · rename_i z hz; exact op_makeSlice hT hg hd hop hdst ht hn hs hz h
        · exact h.elim
      · exact h.elim
    · exact h.elim
  | slice t x lo hi mx =>
    simp only [hop] at h
    split at h
    · rename_i e i ht
      exact op_slice hT hg hd hop ht h
    · rename_i m e i ht
      split at h
      · exact op_slice3 hT hg hd hop ht h
      · exact h.elim
    · exact h.elim
  | fieldAddr t x f =>
    simp only [hop] at h
    split at h
    · rename_i i ht
      split at h
      · rename_i hl
        split at h
        · rename_i s hs; exact op_fieldAddr hT hg hd hop ht hl hs h
        · exact h.elim
      · exact h.elim
    · exact h.elim
  | field t x f =>
    simp only [hop] at h
    split at h
    · rename_i i ht
      split at h
      · rename_i s hs; exact op_field hT hg hd hop ht hs h
      · exact h.elim
    · exact h.elim
  | indexAddr t x ix =>
    simp only [hop] at h
    split at h
    · rename_i e i ht; exact op_indexAddr hT hg hd hop ht h
    · exact h.elim
  | extract t i =>
    simp only [hop] at h
    split at h
    · rename_i ls hl
      split at h
      · rename_i s hs
        split at h
        · exact h.elim
        · exact op_extract hg hd hop hl hs h
      · exact h.elim
    · exact h.elim
  | call c =>
    simp only [hop] at h
    split at h
    · rename_i fv hc
      split at h
      · rename_i d hdst
        obtain ⟨σ', hg', hn, h⟩ := cut_ok hg h
        exact op_call hg' hdst (by rw [hn]; exact lt_of_dst hd hdst) hop hc h
      · exact h.elim
    · rename_i hc
      split at h
      · rename_i x t hx htt
        split at h
        · rename_i e n ht hn; exact op_len hT hg hd hop hc hx htt ht hn h
        · exact h.elim
      · exact h.elim
    · rename_i hc
      split at h
      · rename_i x y hx
        split at h
        · rename_i k m k' n hm hn
          split at h
          · rename_i hk; subst hk; exact op_max hg hd hop hc hx hm hn h
          · exact h.elim
        · exact h.elim
      · exact h.elim
    · rename_i hc
      split at h
      · rename_i x y hx
        split at h
        · rename_i k m k' n hm hn
          split at h
          · rename_i hk; subst hk; exact op_min hg hd hop hc hx hm hn h
          · exact h.elim
        · exact h.elim
      · exact h.elim
    · rename_i hc
      split at h
      · rename_i x t hx htt
        split at h
        · rename_i p ht hn
          exact op_cap hT hg hd hop hc hx htt ht hn h
        · exact h.elim
      · exact h.elim
    · rename_i hc
      split at h
      · rename_i x t hdst hx htt
        split at h
        · rename_i e i ht
          unfold clearS at h
          split at h
          · rename_i id p l hs
            split at h
            · rename_i es sz io hf
              split at h
              · rename_i hk; subst hk
                split at h
                · rename_i z hz
                  refine op_clear hT hg hdst hop hc hx htt ht hf hs hz ?_
                  have e1 : (stdA P).spl es p ((stdA P).rep l z) = es.take p ++ List.replicate l z ++ es.drop (p + l) := by
                    show es.take p ++ List.replicate l z ++ es.drop (p + (List.replicate l z).length) = _
                    rw [List.length_replicate]
                  rw [← e1]; exact h
                · exact h.elim
              · exact h.elim
            · exact h.elim
          · exact h.elim
        · exact h.elim
      · exact h.elim
    · rename_i hc
      split at h
      · rename_i d x y t t' hdst hx htt
        split at h
        · rename_i hk; subst hk
          split at h
          · rename_i e i ht; exact op_append hT hg hdst (lt_of_dst hd hdst) hop hc hx htt ht h
          · exact h.elim
        · split at h
          · rename_i e i ht ht'; exact op_append_zero hT hg hdst (lt_of_dst hd hdst) hop hc hx htt ht ht' h
          · exact h.elim
      · exact h.elim
    · exact h.elim
  | _ => simp only [hop] at h

theorem passO_some {f : FuncId} {d : Nat} {x : Operand} (h : passO o = some (f, d, x)) : ∃ c, o.op = .call c ∧ o.dst = some d ∧ c.callee = .value (.func f) ∧ c.args.toList = [x] := by
  unfold passO at h
  split at h
  · rename_i c d' h1 h2
    split at h
    · rename_i f' x' h3 h4
      split at h
      · cases h; exact ⟨c, h1, h2, h3, h4⟩
      · cases h
    · cases h
  · cases h
theorem revO_some {f : FuncId} {d : Nat} {x : Operand} (h : revO o = some (f, d, x)) : ∃ c, o.op = .call c ∧ o.dst = some d ∧ c.callee = .value (.func f) ∧ c.args.toList = [x] := by
  unfold revO at h
  split at h
  · rename_i c d' h1 h2
    split at h
    · rename_i f' x' h3 h4
      split at h
      · cases h; exact ⟨c, h1, h2, h3, h4⟩
      · cases h
    · cases h
  · cases h
theorem aopC_ok (hT : TTok P) (hg : G E M σ a w) (hd : o.dst.all (fun d => Nat.blt d σ.n) = true) (h : aopC (stdA P) o σ K) : o.wp P a w (Nx E K) Q := by
  unfold aopC at h
  split at h
  · rename_i f d x hp
    obtain ⟨c, h1, h2, h3, h4⟩ := passO_some hp
    exact op_pass hg h2 (lt_of_dst hd h2) h1 h3 h4 h
  · split at h
    · rename_i f d x hp
      obtain ⟨c, h1, h2, h3, h4⟩ := revO_some hp
      exact op_rev hg h2 (lt_of_dst hd h2) h1 h3 h4 h
    · exact aopI_ok hT hg hd h

theorem aop_ok (hT : TTok P) (hg : G E M σ a w) (hd : o.dst.all (fun d => Nat.blt d σ.n) = true) (h : aop (stdA P) o σ K) : o.wp P a w (Nx E K) Q := by
  unfold aop at h
  obtain ⟨M', σ', hg', hn, h⟩ := keep_ok hg h
  split at h
  · split at h
    · exact deepI_ok hT hg' (by rw [hn]; exact hd) h
    · exact aopI_ok hT hg' (by rw [hn]; exact hd) h
  · exact aopC_ok hT hg' (by rw [hn]; exact hd) h

end ops
end Go.VAI

namespace Go.VAI
variable {E : Env} {P : Program}

section regions
variable {M : Mp} {σ : St} {a : Act} {w : World} {o : Oper} {Q : Exit → Act → World → Prop}

theorem tmp_some (hg : G E M σ a w) {t : Nat} {b : Bool} {bs : List Nat} (h : σ.slots t = .pv (.val (.bool b)) bs) : a.tmps[t]? = some (.bool b) := by
  have hc := hg.slots t
  rw [h] at hc
  have hv := boolOf_val (E := E) (M := M) (σ := σ) (w := w) (s := .pv (.val (.bool b)) bs) rfl hc
  rw [Array.getD_eq_getD_getElem?] at hv
  cases hq : a.tmps[t]? with
  | none => rw [hq] at hv; cases hv
  | some v => rw [hq] at hv; simp at hv; rw [hv]

theorem tmp_undef (hg : G E M σ a w) {t : Nat} (h : σ.slots t = .undef) : a.tmps[t]? = none ∨ a.tmps[t]? = some undef := by
  have hc : a.tmps.getD t undef = undef := by
    have := hg.slots t
    rw [h] at this; exact this
  rw [Array.getD_eq_getD_getElem?] at hc
  cases hq : a.tmps[t]? with
  | none => exact .inl rfl
  | some v => rw [hq] at hc; simp at hc; exact .inr (by rw [hc])

/-- One operation, if it is wanted. -/
theorem aopG_ok (hT : TTok P) (hg : G E M σ a w) {ops : Array Oper} {K : St → Prop} (h : aopG (stdA P) ops o σ K) {N : Act → World → Prop} (hN : ∀ a w, Nx E K a w → N a w) :
    if Region.wanted o (yielded ops a.tmps) then o.wp P a w N Q else N (a.put o.dst undef) w := by
  unfold aopG at h
  split at h
  · rename_i hd
    have skip : K (putO σ o.dst .undef) → N (a.put o.dst undef) w := fun hK => hN _ _ ⟨M, _, hg.putO hd undef_cl, hK⟩
    have act : aop (stdA P) o σ K → o.wp P a w N Q := fun hK => Oper.wp_mono hN (aop_ok hT hg hd hK)
    split at h
    · rename_i hgd
      simp only [Region.wanted, hgd, if_true]
      exact act h
    · rename_i j want hgd
      split at h
      · rename_i t ht
        have hy : yielded ops a.tmps j = match a.tmps[t]? with | some (.bool b) => some b | _ => none := by
          unfold yielded; rw [ht]; rfl
        split at h
        · rename_i b bs hs
          have hy' : yielded ops a.tmps j = some b := by rw [hy, tmp_some hg hs]
          simp only [Region.wanted, hgd, hy']
          cases b <;> cases want <;> simp only at h <;> simp <;> first | exact act h | exact skip h
        · rename_i hs
          have hy' : yielded ops a.tmps j = none := by
            rw [hy]
            rcases tmp_undef hg hs with e | e <;> rw [e] <;> rfl
          simp only [Region.wanted, hgd, hy']
          simp
          exact skip h
        · exact h.elim
      · exact h.elim
  · exact h.elim

theorem aops_ok (hT : TTok P) {ops : Array Oper} : ∀ {l : List Oper} {M : Mp} {σ : St} {a : Act} {w : World} {K : St → Prop}, G E M σ a w → aops (stdA P) ops l σ K → (∀ a w, Nx E K a w → Q .normal a w) → wpList P ops Q l a w
  | [], M, σ, a, w, K, hg, h, hQ => hQ _ _ ⟨M, σ, hg, h⟩
  | o :: l, M, σ, a, w, K, hg, h, hQ => by
    have := aopG_ok (Q := Q) hT hg h (N := wpList P ops Q l) (fun a w ⟨M', σ', hg', h'⟩ => aops_ok hT hg' h' hQ)
    unfold wpList
    split
    · rename_i hw; rw [if_pos hw] at this; exact .inl this
    · rename_i hw; rw [if_neg hw] at this; exact this

end regions
end Go.VAI

namespace Go.VAI

/-! ### What an operation looks at -/

def see1 : Slot → List Nat
  | .own id _ => [id]
  | .ref id _ => [id]
  | .rref id _ _ => [id]
  | .lf id _ _ _ => [id]
  | _ => []

def see2 (σ : St) : Slot → List Nat
  | .ag ls => ls.flatMap see1
  | .ref id _ => id :: (match σ.files id with
    | some (.cell ls) => ls.flatMap see1
    | _ => [])
  | s => see1 s

def seeS (σ : St) : Slot → List Nat
  | .clo _ caps => if caps.all isLeaf then caps.flatMap (see2 σ) else []
  | s => see2 σ s

variable {A : Ar} {σ σ' : St}

theorem optAll_congr {α β : Type} {f g : α → Option β} : ∀ {ls : List α}, (∀ s ∈ ls, f s = g s) → optAll f ls = optAll g ls
  | [], _ => rfl
  | x :: ls, h => by
    simp only [optAll]
    rw [h x (by simp), optAll_congr (fun s hs => h s (by simp [hs]))]

theorem content_same {id : Nat} {sub : Option (Nat × Nat)} (h : σ'.files id = σ.files id) : content A σ' id sub = content A σ id sub := by
  unfold content; rw [h]

theorem pv1_same {s : Slot} (h : ∀ id ∈ see1 s, σ'.files id = σ.files id) : pv1 A σ' s = pv1 A σ s := by
  cases s with
  | own id sub => simp only [pv1]; rw [content_same (h id (by simp [see1]))]
  | lf id i o yl => simp only [pv1]; rw [h id (by simp [see1])]
  | _ => rfl

theorem pv2_same {s : Slot} (h : ∀ id ∈ see2 σ s, σ'.files id = σ.files id) : pv2 A σ' s = pv2 A σ s := by
  cases s with
  | ag ls =>
    simp only [pv2]
    rw [optAll_congr (fun s hs => pv1_same (fun id hid => h id (List.mem_flatMap.2 ⟨s, hs, hid⟩)))]
  | ref id o =>
    simp only [pv2]
    have h0 := h id (by simp [see2])
    rw [h0]
    split
    · rename_i ls hf
      rw [optAll_congr (fun s hs => pv1_same (fun i hi => h i (by simp only [see2, hf, List.mem_cons]; exact .inr (List.mem_flatMap.2 ⟨s, List.mem_of_mem_drop hs, hi⟩))))]
    · rfl
  | own id sub => exact pv1_same (s := .own id sub) h
  | lf id i o yl => exact pv1_same (A := A) (s := .lf id i o yl) h
  | _ => rfl

theorem toPV_same {s : Slot} (h : ∀ id ∈ seeS σ s, σ'.files id = σ.files id) : toPV A σ' s = toPV A σ s := by
  cases s with
  | clo f caps =>
    simp only [toPV]
    by_cases hl : caps.all isLeaf = true
    · rw [if_pos hl, if_pos hl]
      rw [optAll_congr (fun s hs => pv2_same (fun id hid => h id (by simp only [seeS]; rw [if_pos hl]; exact List.mem_flatMap.2 ⟨s, hs, hid⟩)))]
    · rw [if_neg hl, if_neg hl]
  | ag ls => exact pv2_same (s := .ag ls) h
  | ref id o => exact pv2_same (s := .ref id o) h
  | own id sub => exact pv2_same (s := .own id sub) h
  | lf id i o yl => exact pv2_same (A := A) (s := .lf id i o yl) h
  | _ => rfl

theorem refs1_same {s : Slot} (h : ∀ id ∈ see1 s, σ'.files id = σ.files id) : refs1 σ' s = refs1 σ s := by
  cases s with
  | own id sub => simp only [refs1]; rw [h id (by simp [see1])]
  | lf id i o yl => simp only [refs1]; rw [h id (by simp [see1])]
  | _ => rfl

theorem flatMap_congr {α β : Type} {f g : α → List β} : ∀ {ls : List α}, (∀ s ∈ ls, f s = g s) → ls.flatMap f = ls.flatMap g
  | [], _ => rfl
  | x :: ls, h => by
    simp only [List.flatMap_cons]
    rw [h x (by simp), flatMap_congr (fun s hs => h s (by simp [hs]))]

theorem refs2_same {s : Slot} (h : ∀ id ∈ see2 σ s, σ'.files id = σ.files id) : refs2 σ' s = refs2 σ s := by
  cases s with
  | ag ls => simp only [refs2]; exact flatMap_congr (fun s hs => refs1_same (fun id hid => h id (List.mem_flatMap.2 ⟨s, hs, hid⟩)))
  | ref id o =>
    simp only [refs2]
    rw [h id (by simp [see2])]
    split
    · rename_i ls hf
      rw [flatMap_congr (fun s hs => refs1_same (fun i hi => h i (by simp only [see2, hf, List.mem_cons]; exact .inr (List.mem_flatMap.2 ⟨s, hs, hi⟩))))]
    · rfl
  | own id sub => exact refs1_same (s := .own id sub) h
  | lf id i o yl => exact refs1_same (s := .lf id i o yl) h
  | _ => rfl

theorem refsOf_same {s : Slot} {r : PV} (hp : toPV A σ s = some r) (h : ∀ id ∈ seeS σ s, σ'.files id = σ.files id) : refsOf σ' s = refsOf σ s := by
  cases s with
  | clo f caps =>
    have hl : caps.all isLeaf = true := by
      simp only [toPV] at hp
      split at hp
      · assumption
      · cases hp
    simp only [refsOf]; exact flatMap_congr (fun s hs => refs2_same (fun id hid => h id (by simp only [seeS]; rw [if_pos hl]; exact List.mem_flatMap.2 ⟨s, hs, hid⟩)))
  | ag ls => exact refs2_same (s := .ag ls) h
  | ref id o => exact refs2_same (s := .ref id o) h
  | own id sub => exact refs2_same (s := .own id sub) h
  | lf id i o yl => exact refs2_same (s := .lf id i o yl) h
  | _ => rfl

theorem liveS_same {s : Slot} (h : ∀ id ∈ see1 s, σ'.files id = σ.files id) : liveS σ' s = liveS σ s := by
  cases s with
  | pv r bs => cases r <;> rfl
  | own id sub => simp only [liveS]; rw [h id (by simp [see1])]
  | ref id o => simp only [liveS]; rw [h id (by simp [see1])]
  | rref id i o => simp only [liveS]; rw [h id (by simp [see1])]
  | _ => rfl

theorem see_leaves {s : Slot} : ∀ t ∈ sleaves s, ∀ id ∈ see1 t, id ∈ seeS σ s := by
  intro t ht id hid
  cases s with
  | ag ls => exact List.mem_flatMap.2 ⟨t, ht, hid⟩
  | pv r bs => cases r <;> simp only [sleaves, List.mem_singleton, List.mem_map] at ht <;> first | (subst ht; simp [see1] at hid) | (obtain ⟨x, _, rfl⟩ := ht; simp [see1] at hid)
  | ref i o => simp only [sleaves, List.mem_singleton] at ht; subst ht; simp only [see1, List.mem_singleton] at hid; subst hid; simp [seeS, see2]
  | own i sub => simp only [sleaves, List.mem_singleton] at ht; subst ht; exact hid
  | rref i x o => simp only [sleaves, List.mem_singleton] at ht; subst ht; exact hid
  | lf i x o yl => simp only [sleaves, List.mem_singleton] at ht; subst ht; exact hid
  | clo f ls => simp only [sleaves, List.mem_singleton] at ht; subst ht; simp [see1] at hid
  | tup ls => simp only [sleaves, List.mem_singleton] at ht; subst ht; simp [see1] at hid
  | undef => simp only [sleaves, List.mem_singleton] at ht; subst ht; simp [see1] at hid
  | dead => simp only [sleaves, List.mem_singleton] at ht; subst ht; simp [see1] at hid

theorem all_live_same {s : Slot} (h : ∀ id ∈ seeS σ s, σ'.files id = σ.files id) : (sleaves s).all (liveS σ') = (sleaves s).all (liveS σ) := by
  have : ∀ l : List Slot, (∀ t ∈ l, liveS σ' t = liveS σ t) → l.all (liveS σ') = l.all (liveS σ) := by
    intro l
    induction l with
    | nil => intro _; rfl
    | cons x l ih => intro hl; simp only [List.all_cons]; rw [hl x (by simp), ih (fun t ht => hl t (by simp [ht]))]
  exact this _ (fun t ht => liveS_same (fun id hid => h id (see_leaves t ht id hid)))

theorem lenS_same {s : Slot} (h : ∀ id ∈ seeS σ s, σ'.files id = σ.files id) : lenS A σ' s = lenS A σ s := by
  cases s with
  | own id sub => simp only [lenS]; rw [h id (by simp [seeS, see2, see1])]
  | lf id i o yl => simp only [lenS]; rw [h id (by simp [seeS, see2, see1])]
  | pv r bs => cases r with
    | val v => cases v with
      | slice a n c => cases a <;> cases n <;> cases c <;> rfl
      | _ => rfl
    | _ => rfl
  | _ => rfl

theorem loadS_same {t : TI} {s : Slot} {K : Slot → Prop} (h : ∀ id ∈ seeS σ s, σ'.files id = σ.files id) : loadS A σ' t s K = loadS A σ t s K := by
  cases s with
  | ref id o => simp only [loadS]; rw [h id (by simp [seeS, see2])]
  | rref id i o => simp only [loadS]; rw [h id (by simp [seeS, see2, see1])]
  | pv r bs => cases r <;> rfl
  | _ => rfl

theorem indexAddrS_same {t : TI} {s i : Slot} {K : Slot → Prop} (h : ∀ id ∈ seeS σ s, σ'.files id = σ.files id) : indexAddrS A σ' t s i K = indexAddrS A σ t s i K := by
  unfold indexAddrS
  cases s with
  | own id sub => simp only; rw [h id (by simp [seeS, see2, see1])]
  | pv r bs => cases r <;> rfl
  | _ => rfl

theorem bound_same {x : Option Operand} {n : Nat} {K : Nat → Prop} (h : ∀ y, x = some y → eval σ' y = eval σ y) : bound σ' A x n K = bound σ A x n K := by
  cases x with
  | none => rfl
  | some y => simp only [bound]; rw [h y rfl]

theorem sliceS_same {e : TI} {s : Slot} {lo hi : Option Operand} {K : Slot → Prop} (h : ∀ id ∈ seeS σ s, σ'.files id = σ.files id) (hl : ∀ y, lo = some y → eval σ' y = eval σ y) (hh : ∀ y, hi = some y → eval σ' y = eval σ y) :
    sliceS A σ' e s lo hi K = sliceS A σ e s lo hi K := by
  unfold sliceS
  cases s with
  | own id sub => simp only [bound_same hl, bound_same hh]; rw [h id (by simp [seeS, see2, see1])]
  | pv r bs =>
    cases r with
    | val v =>
      simp only [bound_same hl, bound_same hh]
      cases v with
      | slice a n c => cases a <;> cases n <;> cases c <;> rfl
      | _ => rfl
    | _ => first | rfl | simp only [bound_same hl, bound_same hh]
  | _ => rfl

theorem partsOf_same {e : TI} : ∀ {ps : List (Nat × Operand)} {k : Nat}, (∀ p ∈ ps, eval σ' p.2 = eval σ p.2) → (∀ p ∈ ps, ∀ id ∈ seeS σ (eval σ p.2), σ'.files id = σ.files id) → partsOf A σ' e k ps = partsOf A σ e k ps
  | [], _, _, _ => rfl
  | (i, x) :: ps, k, h1, h2 => by
    simp only [partsOf]
    rw [h1 (i, x) (by simp)]
    have : pv2 A σ' (eval σ x) = pv2 A σ (eval σ x) := by
      have h3 := h2 (i, x) (by simp)
      cases hs : eval σ x with
      | clo f ls => rfl
      | ag ls => rw [hs] at h3; exact pv2_same (s := .ag ls) h3
      | ref id o => rw [hs] at h3; exact pv2_same (s := .ref id o) h3
      | own id sub => rw [hs] at h3; exact pv2_same (s := .own id sub) h3
      | lf id i o yl => rw [hs] at h3; exact pv2_same (A := A) (s := .lf id i o yl) h3
      | _ => rfl
    rw [this, partsOf_same (fun p hp => h1 p (by simp [hp])) (fun p hp => h2 p (by simp [hp]))]

theorem fillS_same {t : TI} : ∀ {ps : List (Nat × Operand)} {acc : List Slot}, (∀ p ∈ ps, eval σ' p.2 = eval σ p.2) → (∀ p ∈ ps, ∀ id ∈ seeS σ (eval σ p.2), σ'.files id = σ.files id) → fillS t σ' ps acc = fillS t σ ps acc
  | [], _, _, _ => rfl
  | (i, x) :: ps, acc, h1, h2 => by
    simp only [fillS]
    rw [h1 (i, x) (by simp), all_live_same (h2 (i, x) (by simp))]
    have ih := fun acc => fillS_same (t := t) (ps := ps) (acc := acc) (fun p hp => h1 p (by simp [hp])) (fun p hp => h2 p (by simp [hp]))
    simp only [ih]

end Go.VAI

namespace Go.VAI

/-! ### States in which nothing speaks of a file -/

def nrF2 (id : Nat) : File → Prop
  | .cell ls => ∀ s ∈ ls, nr2 id s
  | .row _ _ u _ => id ∉ rubs u

structure Fr (σ : St) (id : Nat) : Prop where
  slots : ∀ k, nrS id (σ.slots k)
  files : ∀ j f, σ.files j = some f → nrF2 id f
  none : σ.files id = none

theorem nr2_1 {id : Nat} {s : Slot} (h : nr2 id s) : nr1 id s := by
  cases s <;> first | exact h | exact trivial

theorem Fr.fresh {σ : St} {id : Nat} (h : Fr σ id) : Fresh σ id :=
  ⟨h.slots, fun j f hf => by
    have := h.files j f hf
    cases f with
    | cell ls => exact fun s hs => nr2_1 (this s hs)
    | row es sz u io => exact this, h.none⟩

variable {A : Ar} {σ : St} {d : Nat}

theorem dropB_id {bs : List Nat} (h : ∀ id, cls id = d → id ∉ bs) : dropB d bs = bs := by
  unfold dropB
  rw [List.filter_eq_self]
  intro i hi
  have : cls i ≠ d := fun e => h i e hi
  simpa using this

theorem ret1_id {s : Slot} (h : ∀ id, cls id = d → nr1 id s) : ret1 A σ d s = s := by
  cases s with
  | pv r bs => simp only [ret1]; rw [dropB_id h]
  | own j sub => simp only [ret1]; rw [if_neg (fun e => h j e rfl)]
  | ref j o => simp only [ret1]; rw [if_neg (fun e => h j e rfl)]
  | rref j i o => simp only [ret1]; rw [if_neg (fun e => h j e rfl)]
  | lf j i o yl => simp only [ret1]; rw [if_neg (fun e => h j e rfl)]
  | _ => rfl

theorem map_id {α : Type} {f : α → α} {l : List α} (h : ∀ x ∈ l, f x = x) : l.map f = l := by
  induction l with
  | nil => rfl
  | cons x l ih => simp only [List.map_cons]; rw [h x (by simp), ih (fun y hy => h y (by simp [hy]))]

theorem map2_ret_id {s : Slot} (h : ∀ id, cls id = d → nr2 id s) : map2 (ret1 A σ d) s = s := by
  cases s with
  | ag ls => simp only [map2]; rw [map_id (fun x hx => ret1_id (fun id hid => h id hid x hx))]
  | clo f ls => simp only [map2]; rw [map_id (fun x hx => ret1_id (fun id hid => h id hid x hx))]
  | pv r bs => exact ret1_id (A := A) (σ := σ) (s := .pv r bs) h
  | own j sub => exact ret1_id (A := A) (σ := σ) (s := .own j sub) h
  | ref j o => exact ret1_id (A := A) (σ := σ) (s := .ref j o) h
  | rref j i o => exact ret1_id (A := A) (σ := σ) (s := .rref j i o) h
  | lf j i o yl => exact ret1_id (A := A) (σ := σ) (s := .lf j i o yl) h
  | _ => rfl

theorem mapS_ret_id {s : Slot} (h : ∀ id, cls id = d → nrS id s) : mapS (ret1 A σ d) s = s := by
  cases s with
  | tup ls => simp only [mapS]; rw [map_id (fun x hx => map2_ret_id (fun id hid => h id hid x hx))]
  | pv r bs => exact map2_ret_id (A := A) (σ := σ) (s := .pv r bs) h
  | ag ls => exact map2_ret_id (A := A) (σ := σ) (s := .ag ls) h
  | own j sub => exact map2_ret_id (A := A) (σ := σ) (s := .own j sub) h
  | ref j o => exact map2_ret_id (A := A) (σ := σ) (s := .ref j o) h
  | rref j i o => exact map2_ret_id (A := A) (σ := σ) (s := .rref j i o) h
  | lf j i o yl => exact map2_ret_id (A := A) (σ := σ) (s := .lf j i o yl) h
  | clo f ls => exact map2_ret_id (A := A) (σ := σ) (s := .clo f ls) h
  | _ => rfl

theorem retF_id {f : File} (h : ∀ id, cls id = d → nrF2 id f) : retF A σ d f = f := by
  cases f with
  | cell ls => simp only [retF]; rw [map_id (fun x hx => map2_ret_id (fun id hid => h id hid x hx))]
  | row es sz u io =>
    cases u with
    | free => rfl
    | deep z0 zs => rfl
    | sh bs => simp only [retF]; rw [dropB_id (bs := bs) h]

theorem retire_id (h : ∀ id, cls id = d → Fr σ id) : retire A σ d = σ := by
  obtain ⟨n, sl, fl⟩ := σ
  unfold retire
  congr 1
  · funext k
    exact mapS_ret_id (fun id hid => (h id hid).slots k)
  · funext j
    by_cases hc : cls j = d
    · rw [if_pos hc]; exact ((h j hc).none).symm
    · rw [if_neg hc]
      show (match fl j with | some f => some (retF A ⟨n, sl, fl⟩ d f) | none => none) = fl j
      cases hf : fl j with
      | none => rfl
      | some f => simp only; rw [retF_id (fun id hid => (h id hid).files j f hf)]

theorem nr1_ret' {id : Nat} (hc : cls id = d) (s : Slot) : nr1 id (ret1 A σ d s) := nr1_ret hc s

theorem nr2_ret' {id : Nat} (hc : cls id = d) (s : Slot) : nr2 id (map2 (ret1 A σ d) s) := by
  cases s with
  | ag ls => intro t ht; obtain ⟨x, _, rfl⟩ := List.mem_map.1 ht; exact nr1_ret hc x
  | clo f ls => intro t ht; obtain ⟨x, _, rfl⟩ := List.mem_map.1 ht; exact nr1_ret hc x
  | tup ls => exact trivial
  | pv r bs => exact nr2_of1 (ret1_leaf (A := A) (σ := σ) (d := d) (.pv r bs) (by simp) (by simp) (by simp)).1 (ret1_leaf (A := A) (σ := σ) (d := d) (.pv r bs) (by simp) (by simp) (by simp)).2.1 (nr1_ret (A := A) (σ := σ) hc (.pv r bs))
  | own j sub => exact nr2_of1 (ret1_leaf (A := A) (σ := σ) (d := d) (.own j sub) (by simp) (by simp) (by simp)).1 (ret1_leaf (A := A) (σ := σ) (d := d) (.own j sub) (by simp) (by simp) (by simp)).2.1 (nr1_ret (A := A) (σ := σ) hc (.own j sub))
  | ref j o => exact nr2_of1 (ret1_leaf (A := A) (σ := σ) (d := d) (.ref j o) (by simp) (by simp) (by simp)).1 (ret1_leaf (A := A) (σ := σ) (d := d) (.ref j o) (by simp) (by simp) (by simp)).2.1 (nr1_ret (A := A) (σ := σ) hc (.ref j o))
  | rref j i o => exact nr2_of1 (ret1_leaf (A := A) (σ := σ) (d := d) (.rref j i o) (by simp) (by simp) (by simp)).1 (ret1_leaf (A := A) (σ := σ) (d := d) (.rref j i o) (by simp) (by simp) (by simp)).2.1 (nr1_ret (A := A) (σ := σ) hc (.rref j i o))
  | lf j i o yl => exact nr2_of1 (ret1_leaf (A := A) (σ := σ) (d := d) (.lf j i o yl) (by simp) (by simp) (by simp)).1 (ret1_leaf (A := A) (σ := σ) (d := d) (.lf j i o yl) (by simp) (by simp) (by simp)).2.1 (nr1_ret (A := A) (σ := σ) hc (.lf j i o yl))
  | undef => exact trivial
  | dead => exact trivial

theorem nrS_ret' {id : Nat} (hc : cls id = d) (s : Slot) : nrS id (mapS (ret1 A σ d) s) := by
  have leaf : ∀ s, (∀ ls, s ≠ .ag ls) → (∀ f ls, s ≠ .clo f ls) → (∀ ls, s ≠ .tup ls) → nrS id (ret1 A σ d s) := fun s h1 h2 h3 =>
    nrS_of2 (ret1_leaf s h1 h2 h3).2.2 (nr2_of1 (ret1_leaf s h1 h2 h3).1 (ret1_leaf s h1 h2 h3).2.1 (nr1_ret hc s))
  cases s with
  | tup ls => intro t ht; obtain ⟨x, _, rfl⟩ := List.mem_map.1 ht; exact nr2_ret' hc x
  | ag ls => exact nr2_ret' (A := A) (σ := σ) hc (.ag ls)
  | clo f ls => exact nr2_ret' (A := A) (σ := σ) hc (.clo f ls)
  | pv r bs => exact leaf (.pv r bs) (by simp) (by simp) (by simp)
  | own j sub => exact leaf (.own j sub) (by simp) (by simp) (by simp)
  | ref j o => exact leaf (.ref j o) (by simp) (by simp) (by simp)
  | rref j i o => exact leaf (.rref j i o) (by simp) (by simp) (by simp)
  | lf j i o yl => exact leaf (.lf j i o yl) (by simp) (by simp) (by simp)
  | undef => exact trivial
  | dead => exact trivial

theorem retire_fr {id : Nat} (hc : cls id = d) : Fr (retire A σ d) id where
  slots k := nrS_ret' hc (σ.slots k)
  files j f hf := by
    obtain ⟨_, f0, _, rfl⟩ := retire_files.1 hf
    cases f0 with
    | cell ls => intro t ht; obtain ⟨x, _, rfl⟩ := List.mem_map.1 ht; exact nr2_ret' hc x
    | row es sz u io =>
      cases u with
      | free => simp [retF, nrF2, rubs]
      | deep z0 zs => simp [retF, nrF2, rubs]
      | sh bs => exact fun h => (mem_dropB.1 h).2 hc
  none := by simp [retire, hc]

theorem mkF_fr {K : St → Prop} (h : ∀ id, cls id = d → Fr σ id) : mkF A σ d K = if okD d then K σ else False := by
  unfold mkF
  by_cases hb : okD d = true
  · rw [retire_id h]
  · simp [hb]

end Go.VAI

namespace Go.VAI
variable {A : Ar} {σ : St} {d : Nat} {o : Oper} {K : St → Prop}

/-- A calm operation, where nothing speaks of the files that it may make. -/
theorem aopI_eq (hc : calm o = true) (hd : o.dst = some d) (hfr : makes o = true → ∀ id, cls id = d → Fr σ id) : aopI A o σ K = aopN A o d σ (fun s fs => K (put (putFs σ fs) d s)) := by
  have mv : ∀ x, (o.op = .move x ∨ o.op = .assign x) → (if isNilSl x then (match o.dst, elemOf o.type with
      | some d, some (_, e) => mkF A σ d (fun σ => K (put (putF σ d (.row [] e.size .free false)) d (.own d none)))
      | _, _ => False) else K (putO σ o.dst (eval σ x))) = (if isNilSl x then (match elemOf o.type with
      | some (_, e) => if okD d then K (put (putFs σ [(d, .row [] e.size .free false)]) d (.own d none)) else False
      | none => False) else K (put (putFs σ []) d (eval σ x))) := by
    intro x hop
    by_cases hx : isNilSl x = true
    · rw [if_pos hx, if_pos hx, hd]
      have hm : makes o = true := by
        obtain ⟨dst, op, ty, pos, after, guard⟩ := o
        rcases hop with hop | hop <;> (simp only at hop; subst hop; exact hx)
      cases elemOf o.type with
      | none => rfl
      | some p => obtain ⟨e0, e⟩ := p; simp only; rw [mkF_fr (hfr hm)]; rfl
    · rw [if_neg hx, if_neg hx, hd]; rfl
  unfold aopI aopN
  cases hop : o.op with
  | move x => exact mv x (.inl hop)
  | assign x => exact mv x (.inr hop)
  | pick c x y => simp only [hd]; rfl
  | alloc t =>
    have hm : makes o = true := by obtain ⟨dst, op, ty, pos, after, guard⟩ := o; simp only at hop; subst hop; rfl
    simp only [hd]
    cases tt t with
    | none => rfl
    | some i => simp only; rw [mkF_fr (hfr hm)]; rfl
  | box t x =>
    have hm : makes o = true := by obtain ⟨dst, op, ty, pos, after, guard⟩ := o; simp only at hop; subst hop; rfl
    simp only [hd]
    cases tt t with
    | none => rfl
    | some i => simp only; rw [mkF_fr (hfr hm)]; rfl
  | build t ps => simp only [hd]; cases tt t <;> rfl
  | buildSlice t n ps =>
    have hm : makes o = true := by obtain ⟨dst, op, ty, pos, after, guard⟩ := o; simp only at hop; subst hop; rfl
    simp only [hd]
    cases elemOf t with
    | none => rfl
    | some p => obtain ⟨e0, e⟩ := p; simp only; rw [mkF_fr (hfr hm)]; rfl
  | load t x => simp only [hd]; rfl
  | binOp op t x y t' =>
    simp only [calm, hop, Bool.and_eq_true, Bool.not_eq_true'] at hc
    simp only [hd, hc.2]; rfl
  | unOp op t x => simp only [hd]; rfl
  | convert t' t x => simp only [hd]; rfl
  | makeFunc fn first caps => cases fn <;> simp only [hd] <;> rfl
  | makeSlice t l c =>
    have hm : makes o = true := by obtain ⟨dst, op, ty, pos, after, guard⟩ := o; simp only at hop; subst hop; rfl
    simp only [hd]
    cases elemOf t with
    | none => rfl
    | some p =>
      obtain ⟨e0, e⟩ := p
      cases intOf (eval σ l) with
      | none => rfl
      | some q => obtain ⟨k, n⟩ := q; simp only; simp only [mkF_fr (hfr hm)]; rfl
  | slice t x lo hi mx =>
    cases mx with
    | none => simp only [hd]; cases elemOf t <;> rfl
    | some m => simp [calm, hop] at hc
  | fieldAddr t x f => simp only [hd]; rfl
  | field t x f => simp only [hd]; rfl
  | indexAddr t x ix => simp only [hd]; rfl
  | extract t i => simp only [hd]; rfl
  | call c =>
    simp only [calm, hop, Bool.and_eq_true] at hc
    obtain ⟨_, hc⟩ := hc
    cases hcc : c.callee with
    | value fv =>
      cases fv with
      | func f =>
        have hm : makes o = true := by
          obtain ⟨dst, op, ty, pos, after, guard⟩ := o
          simp only at hop; subst hop
          obtain ⟨cal, args, at'⟩ := c
          simp only at hcc; subst hcc; rfl
        simp only [hcc, List.isEmpty_iff] at hc
        simp only [hcc, hd]
        have hcut : ∀ K' : St → Prop, cutA A c σ K' = K' σ := fun K' => by
          unfold cutA
          rw [hcc]
          cases c.args.toList with
          | nil => rfl
          | cons x xs =>
            cases x with
            | tmp t => simp only [hc, List.isEmpty_nil, Bool.not_true, Bool.and_false, Bool.false_and]; rfl
            | _ => rfl
        rw [hcut, mkF_fr (hfr hm)]
        by_cases hb : okD d = true
        · rw [if_pos hb, if_pos hb]
          show (match capsOf (.pv (.fn f []) []) with
            | some (f, caps) => callS A d f (c.args.toList.map (eval σ) ++ caps) σ K
            | none => False) = _
          simp only [capsOf, List.map_nil, List.append_nil]
          unfold callS
          simp only [hc, lendOk, if_true]
          cases optAll (toPV A σ) (c.args.toList.map (eval σ)) with
          | none => rfl
          | some ps =>
            simp only
            congr 1
            funext rs outs
            cases outs <;> rfl
        · rw [if_neg hb, if_neg hb]
      | _ => simp [hcc] at hc
    | builtin b => cases b <;> simp only [hd, hcc] <;> first | rfl | (simp [hcc] at hc)
    | invoke r m => simp [hcc] at hc
  | _ => simp [calm, hop] at hc

theorem calm_parts {o : Oper} (h : calm o = true) : keepOp o = none ∧ deepOp o = none ∧ passO o = none ∧ revO o = none := by
  simp only [calm, Bool.and_eq_true, Option.isNone_iff_eq_none] at h
  exact ⟨h.1.2.1.1, h.1.2.1.2, h.1.2.2.1, h.1.2.2.2⟩
theorem calm_keep {o : Oper} (h : calm o = true) : keepOp o = none := (calm_parts h).1
theorem calm_deep {o : Oper} (h : calm o = true) : deepOp o = none := (calm_parts h).2.1
theorem aop_eq (hc : calm o = true) (hd : o.dst = some d) (hfr : makes o = true → ∀ id, cls id = d → Fr σ id) : aop A o σ K = aopN A o d σ (fun s fs => K (put (putFs σ fs) d s)) := by
  rw [← aopI_eq hc hd hfr]
  unfold aop keepA
  rw [calm_keep hc]
  simp only [calm_deep hc, aopC, (calm_parts hc).2.2.1, (calm_parts hc).2.2.2]

end Go.VAI

namespace Go.VAI
variable {A : Ar} {σ σ' : St} {d : Nat} {o : Oper}

/-- σ' is as σ in what o looks at. -/
structure Agree (o : Oper) (σ σ' : St) : Prop where
  ev : ∀ x ∈ o.op.operands, eval σ' x = eval σ x
  see : ∀ x ∈ o.op.operands, ∀ id ∈ seeS σ (eval σ x), σ'.files id = σ.files id

theorem map_eval_same {l : List Operand} (h : ∀ x ∈ l, eval σ' x = eval σ x) : l.map (eval σ') = l.map (eval σ) := List.map_congr_left h

theorem aopN_same (h : Agree o σ σ') {k : Slot → List (Nat × File) → Prop} : aopN A o d σ' k = aopN A o d σ k := by
  obtain ⟨ev, see⟩ := h
  unfold aopN
  cases hop : o.op with
  | move x => simp only; rw [ev x (by simp [hop, Op.operands])]
  | assign x => simp only; rw [ev x (by simp [hop, Op.operands])]
  | pick c x y => simp only; rw [ev c (by simp [hop, Op.operands]), ev x (by simp [hop, Op.operands]), ev y (by simp [hop, Op.operands])]
  | alloc t => rfl
  | box t x => simp only; rw [ev x (by simp [hop, Op.operands]), all_live_same (see x (by simp [hop, Op.operands]))]
  | build t ps =>
    simp only
    have h1 : ∀ p ∈ ps.toList, p.2 ∈ o.op.operands := fun p hp => by simp [hop, Op.operands]; exact ⟨p.1, by simpa using hp⟩
    cases tt t with
    | none => rfl
    | some i => simp only; rw [fillS_same (fun p hp => ev p.2 (h1 p hp)) (fun p hp => see p.2 (h1 p hp))]
  | buildSlice t n ps =>
    simp only
    have h1 : ∀ p ∈ ps.toList, p.2 ∈ o.op.operands := fun p hp => by simp [hop, Op.operands]; exact ⟨p.1, by simpa using hp⟩
    cases elemOf t with
    | none => rfl
    | some q =>
      obtain ⟨e0, e⟩ := q
      simp only
      rw [partsOf_same (fun p hp => ev p.2 (h1 p hp)) (fun p hp => see p.2 (h1 p hp))]
      have hrefs : (ps.toList.flatMap fun p => refs2 σ' (eval σ' p.2)) = ps.toList.flatMap fun p => refs2 σ (eval σ p.2) := flatMap_congr (fun p hp => by
        rw [ev p.2 (h1 p hp)]
        have := see p.2 (h1 p hp)
        cases hs : eval σ p.2 with
        | clo f ls => rfl
        | ag ls => rw [hs] at this; exact refs2_same (s := .ag ls) this
        | ref id o => rw [hs] at this; exact refs2_same (s := .ref id o) this
        | own id sub => rw [hs] at this; exact refs2_same (s := .own id sub) this
        | lf i1 i2 i3 yl => rw [hs] at this; exact refs2_same (s := .lf i1 i2 i3 yl) this
        | _ => rfl)
      rw [hrefs]
  | load t x =>
    simp only
    cases tt t with
    | none => rfl
    | some i => simp only; rw [ev x (by simp [hop, Op.operands]), loadS_same (see x (by simp [hop, Op.operands]))]
  | binOp op t x y t' => simp only; rw [ev x (by simp [hop, Op.operands]), ev y (by simp [hop, Op.operands])]
  | unOp op t x => simp only; rw [ev x (by simp [hop, Op.operands])]
  | convert t' t x => simp only; rw [ev x (by simp [hop, Op.operands])]
  | makeFunc fn first caps =>
    cases fn with
    | func f => simp only; rw [map_eval_same (fun x hx => ev x (by simp [hop, Op.operands]; right; simpa using hx))]
    | _ => rfl
  | makeSlice t l c => simp only; rw [ev l (by simp [hop, Op.operands])]
  | slice t x lo hi mx =>
    cases mx with
    | some y => rfl
    | none =>
      simp only
      cases elemOf t with
      | none => rfl
      | some q =>
        obtain ⟨e0, e⟩ := q
        simp only
        rw [ev x (by simp [hop, Op.operands]), sliceS_same (see x (by simp [hop, Op.operands])) (fun y hy => ev y (by subst hy; simp [hop, Op.operands])) (fun y hy => ev y (by subst hy; simp [hop, Op.operands]))]
  | fieldAddr t x f =>
    simp only
    rw [ev x (by simp [hop, Op.operands])]
    have : liveS σ' (eval σ x) = liveS σ (eval σ x) := by
      have hs := see x (by simp [hop, Op.operands])
      cases he : eval σ x with
      | pv r bs => cases r <;> rfl
      | own id sub => rw [he] at hs; exact liveS_same (s := .own id sub) hs
      | ref id o => rw [he] at hs; exact liveS_same (s := .ref id o) (fun i hi => hs i (by simp only [see1, List.mem_singleton] at hi; subst hi; simp [seeS, see2]))
      | rref id i o => rw [he] at hs; exact liveS_same (s := .rref id i o) hs
      | lf id i o yl => rw [he] at hs; exact liveS_same (s := .lf id i o yl) hs
      | _ => rfl
    rw [this]
  | field t x f => simp only; rw [ev x (by simp [hop, Op.operands])]
  | indexAddr t x ix =>
    simp only
    cases elemOf t with
    | none => rfl
    | some q => obtain ⟨e0, e⟩ := q; simp only; rw [ev x (by simp [hop, Op.operands]), ev ix (by simp [hop, Op.operands]), indexAddrS_same (see x (by simp [hop, Op.operands]))]
  | extract x i => simp only; rw [ev x (by simp [hop, Op.operands])]
  | call c =>
    simp only
    have hargs : ∀ x ∈ c.args.toList, x ∈ o.op.operands := fun x hx => by simp [hop, Op.operands, Call.operands]; right; simpa using hx
    cases hcc : c.callee with
    | value fv =>
      cases fv with
      | func f =>
        simp only
        rw [map_eval_same (fun x hx => ev x (hargs x hx))]
        have h1 : optAll (toPV A σ') (c.args.toList.map (eval σ)) = optAll (toPV A σ) (c.args.toList.map (eval σ)) := optAll_congr (fun s hs => by
          obtain ⟨x, hx, rfl⟩ := List.mem_map.1 hs
          exact toPV_same (see x (hargs x hx)))
        rw [h1]
        cases hps : optAll (toPV A σ) (c.args.toList.map (eval σ)) with
        | none => rfl
        | some ps =>
          have h2 : (c.args.toList.map (eval σ)).flatMap (refsOf σ') = (c.args.toList.map (eval σ)).flatMap (refsOf σ) := flatMap_congr (fun s hs => by
            obtain ⟨r, hr⟩ := Option.isSome_iff_exists.1 (optAll_mem hps s hs)
            obtain ⟨x, hx, rfl⟩ := List.mem_map.1 hs
            exact refsOf_same hr (see x (hargs x hx)))
          rw [h2]
      | _ => rfl
    | builtin b =>
      cases b <;> first | rfl | skip
      · simp only
        cases hl : c.args.toList with
        | nil => rfl
        | cons x l =>
          cases l with
          | cons y l => rfl
          | nil =>
            cases c.argTypes.toList with
            | nil => rfl
            | cons t l => cases l with
              | cons y l => rfl
              | nil => simp only; rw [ev x (hargs x (by simp [hl])), lenS_same (see x (hargs x (by simp [hl])))]
      · simp only
        cases hl : c.args.toList with
        | nil => rfl
        | cons x l =>
          cases l with
          | nil => rfl
          | cons y l => cases l with
            | cons z l => rfl
            | nil => simp only; rw [ev x (hargs x (by simp [hl])), ev y (hargs y (by simp [hl]))]
      · simp only
        cases hl : c.args.toList with
        | nil => rfl
        | cons x l =>
          cases l with
          | nil => rfl
          | cons y l => cases l with
            | cons z l => rfl
            | nil => simp only; rw [ev x (hargs x (by simp [hl])), ev y (hargs y (by simp [hl]))]
    | invoke r m => rfl
  | _ => rfl

end Go.VAI

namespace Go.VAI
variable {P : Program} {σ σ' : St} {d : Nat} {o : Oper}

/-- One outcome of a calm operation, and what it speaks of. -/
def Ends (P : Program) (o : Oper) (d : Nat) (σ : St) (k : Slot → List (Nat × File) → Prop) : Prop :=
  ∃ s fs, k s fs ∧ (∀ k' : Slot → List (Nat × File) → Prop, k' s fs → aopN (stdA P) o d σ k') ∧ (∀ p ∈ fs, cls p.1 = d) ∧ (makes o = false → fs = []) ∧ ∀ id, cls id ≠ d → Fr σ id → nrS id s ∧ ∀ p ∈ fs, nrF2 id p.2

theorem nrS_leaf {id : Nat} {s : Slot} (hl : isLeaf s = true) (h : nr1 id s) : nrS id s := by
  cases s <;> first | exact h | exact trivial | simp [isLeaf] at hl

theorem nrS_pv {id : Nat} {r : PV} : nrS id (.pv r []) := by show id ∉ ([] : List Nat); simp

theorem nrS_mkpv {id : Nat} {r : PV} {bs : List Nat} (h : id ∉ bs) : nrS id (mkpv r bs) := by
  unfold mkpv
  show id ∉ _
  split
  · simp
  · exact h

theorem nr_eval {id : Nat} (h : Fr σ id) (x : Operand) : nrS id (eval σ x) := fresh_eval h.fresh x

/-- Each transformer that hands on one outcome. -/
theorem ends_leaf {k : Slot → List (Nat × File) → Prop} {s : Slot} (hk : k s []) (hT : ∀ k' : Slot → List (Nat × File) → Prop, k' s [] → aopN (stdA P) o d σ k') (hn : ∀ id, cls id ≠ d → Fr σ id → nrS id s) : Ends P o d σ k :=
  ⟨s, [], hk, hT, by simp, fun _ => rfl, fun id h1 h2 => ⟨hn id h1 h2, by simp⟩⟩

theorem ends_file {k : Slot → List (Nat × File) → Prop} {s : Slot} {f : File} (hm : makes o = true) (hd : cls d = d) (hk : k s [(d, f)]) (hT : ∀ k' : Slot → List (Nat × File) → Prop, k' s [(d, f)] → aopN (stdA P) o d σ k') (hn : ∀ id, cls id ≠ d → Fr σ id → nrS id s ∧ nrF2 id f) : Ends P o d σ k :=
  ⟨s, [(d, f)], hk, hT, by simpa using hd, (fun h => by rw [hm] at h; cases h), fun id h1 h2 => ⟨(hn id h1 h2).1, by simpa using (hn id h1 h2).2⟩⟩

theorem loadS_ends {t : TI} {a : Slot} {k : Slot → Prop} (h : loadS (stdA P) σ t a k) : ∃ s, k s ∧ (∀ k' : Slot → Prop, k' s → loadS (stdA P) σ t a k') ∧ ∀ id, Fr σ id → nrS id a → nrS id s := by
  unfold loadS at h ⊢
  split at h
  · rename_i i p
    split at h
    · rename_i ls hf
      split at h
      · rename_i hle
        split at h
        · rename_i s hs
          refine ⟨s, h, fun k' hk' => by simp only [if_pos hle]; exact hk', fun id hfr ha => ?_⟩
          have hls := hfr.files _ _ hf
          have hpt : ∀ x ∈ prt p t.size ls, nr2 id x := fun x hx => hls x (List.mem_of_mem_drop (List.mem_of_mem_take hx))
          unfold ofSleaves at hs
          split at hs
          · cases hs; exact fun x hx => nr2_1 (hpt x hx)
          · split at hs
            · rename_i x hx
              split at hs
              · rename_i hl; cases hs; exact nrS_leaf hl (nr2_1 (hpt _ (by rw [hx]; simp)))
              · cases hs
            · cases hs
        · exact h.elim
      · exact h.elim
    · exact h.elim
  · rename_i i ix p
    split at h
    · rename_i es sz u io hf
      obtain ⟨y, hy, h⟩ := h
      split at h
      · rename_i hle
        split at h
        · rename_i r hr
          have hnr : ∀ id, Fr σ id → nrS id (.rref i ix p) → nrS id (mkpv r (i :: rubs u)) := fun id hfr ha => nrS_mkpv (by
            have h1 : i ≠ id := ha
            have h2 := hfr.files _ _ hf
            simp only [List.mem_cons, not_or]
            exact ⟨fun e => h1 e.symm, h2⟩)
          have key : ∃ s, k s ∧ (∀ k' : Slot → Prop, k' s → hdrK u t i ix p r k') ∧ ∀ id, Fr σ id → nrS id (.rref i ix p) → nrS id s := by
            unfold hdrK at h ⊢
            cases hdp : isDeepU u with
            | false =>
              rw [hdp] at h
              exact ⟨_, h, fun k' hk' => hk', hnr⟩
            | true =>
              rw [hdp] at h
              cases r with
              | sl ys =>
                simp only at h
                split at h
                · rename_i hone
                  exact ⟨_, h, fun k' hk' => by simp only [hone, if_true]; exact hk', fun id _ ha => ha⟩
                · exact h.elim
              | val v => exact ⟨_, h, fun k' hk' => hk', hnr⟩
              | agg ls => exact ⟨_, h, fun k' hk' => hk', hnr⟩
              | pt ls => exact ⟨_, h, fun k' hk' => hk', hnr⟩
              | fn f cs => exact ⟨_, h, fun k' hk' => hk', hnr⟩
          obtain ⟨s, k1, k2, k3⟩ := key
          exact ⟨s, k1, fun k' hk' => ⟨y, hy, by simp only [if_pos hle, hr]; exact k2 k' hk'⟩, k3⟩
        · exact h.elim
      · exact h.elim
    · exact h.elim
  · rename_i ls bs
    split at h
    · rename_i hle
      split at h
      · rename_i r hr
        exact ⟨_, h, fun k' hk' => by simp only [if_pos hle]; exact hk', fun id hfr ha => nrS_mkpv ha⟩
      · exact h.elim
    · exact h.elim
  · exact h.elim

theorem binS_ends {op : BinOp} {t : Nat} {x y : Slot} {k : PV → Prop} (h : binS (stdA P) op t x y k) : ∃ r, k r ∧ ∀ k' : PV → Prop, k' r → binS (stdA P) op t x y k' := by
  unfold binS at h ⊢
  split at h
  · rename_i kx m ky n hx hy
    cases op <;> simp only [stdA] at h ⊢ <;> first
      | exact h.elim
      | (split at h
         · rename_i hk; exact ⟨_, h, fun k' hk' => by rw [if_pos hk]; exact hk'⟩
         · exact h.elim)
      | (split at h
         · rename_i hk; exact ⟨_, h.2, fun k' hk' => by rw [if_pos hk]; exact ⟨h.1, hk'⟩⟩
         · exact h.elim)
      | exact ⟨_, h.2, fun k' hk' => ⟨h.1, hk'⟩⟩
  · split at h
    · split at h
      · rename_i hb
        cases op <;> simp only at h ⊢ <;> first | exact h.elim | exact ⟨_, h, fun k' hk' => by rw [if_pos hb]; exact hk'⟩
      · exact h.elim
    · split at h
      · rename_i hq
        split at h
        · split at h
          · rename_i hl
            split at h
            · rename_i r hr
              cases op <;> simp only at h ⊢ <;> first | exact h.elim | exact ⟨_, h, fun k' hk' => by rw [if_pos hq, if_pos hl]; exact hk'⟩
            · exact h.elim
          · exact h.elim
        · exact h.elim
      · exact h.elim

theorem convS_ends {t : Nat} {x : Slot} {k : PV → Prop} (h : convS (stdA P) t x k) : ∃ r, k r ∧ ∀ k' : PV → Prop, k' r → convS (stdA P) t x k' := by
  unfold convS at h ⊢
  split at h
  · exact ⟨_, h, fun k' hk' => hk'⟩
  · exact h.elim

theorem unS_ends {op : UnOp} {x : Slot} {k : PV → Prop} (h : unS (stdA P) op x k) : ∃ r, k r ∧ ∀ k' : PV → Prop, k' r → unS (stdA P) op x k' := by
  unfold unS at h ⊢
  split at h
  · exact ⟨_, h, fun k' hk' => hk'⟩
  · exact ⟨_, h, fun k' hk' => hk'⟩
  · exact h.elim

end Go.VAI

namespace Go.VAI
variable {P : Program} {σ σ' : St} {d : Nat} {o : Oper}

theorem bound_ends {x : Option Operand} {n : Nat} {K : Nat → Prop} (h : bound σ (stdA P) x n K) : ∃ m, K m ∧ ∀ K' : Nat → Prop, K' m → bound σ (stdA P) x n K' := by
  unfold bound at h ⊢
  cases x with
  | none => exact ⟨n, h, fun _ h => h⟩
  | some y =>
    simp only at h ⊢
    split at h
    · exact ⟨_, h.2, fun K' hK' => ⟨h.1, hK'⟩⟩
    · exact h.elim

theorem sliceS_ends {e : TI} {x : Slot} {lo hi : Option Operand} {k : Slot → Prop} (h : sliceS (stdA P) σ e x lo hi k) : ∃ s, k s ∧ (∀ k' : Slot → Prop, k' s → sliceS (stdA P) σ e x lo hi k') ∧ ∀ id, nrS id x → nrS id s := by
  unfold sliceS at h ⊢
  split at h
  · rename_i i sub
    split at h
    · rename_i es sz u io hf
      split at h
      · rename_i hs
        cases sub with
        | none =>
          obtain ⟨m, h, hm⟩ := bound_ends h
          obtain ⟨m', h, hm'⟩ := bound_ends h
          exact ⟨_, h.2.2, fun k' hk' => by simp only [if_pos hs]; exact hm _ (hm' _ ⟨h.1, h.2.1, hk'⟩), fun id hn => hn⟩
        | some p =>
          obtain ⟨o0, n⟩ := p
          obtain ⟨m, h, hm⟩ := bound_ends h
          obtain ⟨m', h, hm'⟩ := bound_ends h
          exact ⟨_, h.2.2, fun k' hk' => by simp only [if_pos hs]; exact hm _ (hm' _ ⟨h.1, h.2.1, hk'⟩), fun id hn => hn⟩
      · exact h.elim
    · exact h.elim
  · rename_i es bs
    obtain ⟨hw, h⟩ := h
    obtain ⟨m, h, hm⟩ := bound_ends h
    obtain ⟨m', h, hm'⟩ := bound_ends h
    exact ⟨_, h.2.2, fun k' hk' => ⟨hw, hm _ (hm' _ ⟨h.1, h.2.1, hk'⟩)⟩, fun id hn => hn⟩
  · obtain ⟨m, h, hm⟩ := bound_ends h
    obtain ⟨m', h, hm'⟩ := bound_ends h
    exact ⟨_, h.2.2, fun k' hk' => hm _ (hm' _ ⟨h.1, h.2.1, hk'⟩), fun id _ => by show id ∉ ([] : List Nat); simp⟩
  · exact h.elim

theorem indexAddrS_ends {e : TI} {x i : Slot} {k : Slot → Prop} (h : indexAddrS (stdA P) σ e x i k) : ∃ s, k s ∧ (∀ k' : Slot → Prop, k' s → indexAddrS (stdA P) σ e x i k') ∧ ∀ id, nrS id x → nrS id s := by
  unfold indexAddrS at h ⊢
  split at h
  · obtain ⟨h0, h⟩ := h
    split at h
    · split at h
      · split at h
        · rename_i hs
          rename_i sub _ _ _ _ _ _
          cases sub with
          | none => obtain ⟨y, hy, h⟩ := h; exact ⟨_, h, fun k' hk' => ⟨h0, by simp only [if_pos hs]; exact ⟨y, hy, hk'⟩⟩, fun id hn => hn⟩
          | some p => obtain ⟨o0, l⟩ := p; obtain ⟨y, hy, h⟩ := h; exact ⟨_, h, fun k' hk' => ⟨h0, by simp only [if_pos hs]; exact ⟨y, hy, hk'⟩⟩, fun id hn => hn⟩
        · exact h.elim
      · exact h.elim
    · obtain ⟨y, hy, h⟩ := h
      split at h
      · rename_i hl
        exact ⟨_, h, fun k' hk' => ⟨h0, y, hy, by simp only [if_pos hl]; exact hk'⟩, fun id hn => hn⟩
      · exact h.elim
    · exact h.elim
  · exact h.elim

theorem nr_sl {id : Nat} {s : Slot} (h : nrS id s) : ∀ t ∈ sleaves s, nr1 id t := nr_sleaves h

theorem fillS_nr {t : TI} {id : Nat} (hfr : Fr σ id) : ∀ {ps : List (Nat × Operand)} {acc ls : List Slot}, fillS t σ ps acc = some ls → (∀ s ∈ acc, nr1 id s) → ∀ s ∈ ls, nr1 id s
  | [], acc, ls, h, ha => by simp [fillS] at h; subst h; exact ha
  | (i, x) :: ps, acc, ls, h, ha => by
    simp only [fillS] at h
    split at h
    · split at h
      · split at h
        · refine fillS_nr hfr h (fun s hs => ?_)
          unfold splice at hs
          simp only [List.mem_append] at hs
          rcases hs with (hs | hs) | hs
          · exact ha s (List.mem_of_mem_take hs)
          · exact nr_sl (nr_eval hfr x) s hs
          · exact ha s (List.mem_of_mem_drop hs)
        · cases h
      · cases h
    · cases h

theorem adopt1_nr {bs : List Nat} {id c : Nat} (hc : cls id ≠ d) (hd : d < 4096) (hb : id ∉ bs) (r : RS) : nr1 id (adopt1 d bs c r).1 ∧ isLeaf (adopt1 d bs c r).1 = true ∧ ∀ p ∈ (adopt1 d bs c r).2.1, cls p.1 = d ∧ nrF2 id p.2 := by
  have hcl : ∀ c, cls (d + 4096 * c) = d := fun c => by simp only [cls]; omega
  have hne : ∀ c, d + 4096 * c ≠ id := fun c e => hc (by rw [← e]; exact hcl c)
  cases r with
  | pv r => 
    refine ⟨?_, rfl, by simp [adopt1]⟩
    show id ∉ (if isFree r then [] else bs)
    split
    · simp
    · exact hb
  | row es sz u =>
    cases u with
    | free => exact ⟨hne c, rfl, by simp [adopt1, hcl, nrF2, rubs]⟩
    | deep z0 zs => exact ⟨hne c, rfl, by simp [adopt1, hcl, nrF2, rubs]⟩
    | sh b => exact ⟨hne c, rfl, by simp [adopt1, hcl, nrF2, rubs, hb]⟩
  | ag ls => exact ⟨trivial, rfl, by simp [adopt1]⟩
  | tup ls => exact ⟨trivial, rfl, by simp [adopt1]⟩
  | vw p o l => exact ⟨trivial, rfl, by simp [adopt1]⟩

theorem adoptL_nr {f : Nat → RS → Slot × List (Nat × File) × Nat} {Q : Slot → Prop} {R : Nat × File → Prop} (hf : ∀ c r, Q (f c r).1 ∧ ∀ p ∈ (f c r).2.1, R p) : ∀ (ls : List RS) (c : Nat), (∀ s ∈ (adoptL f c ls).1, Q s) ∧ ∀ p ∈ (adoptL f c ls).2.1, R p
  | [], c => by simp [adoptL]
  | x :: xs, c => by
    obtain ⟨h1, h2⟩ := hf c x
    obtain ⟨h3, h4⟩ := adoptL_nr hf xs (f c x).2.2
    refine ⟨fun s hs => ?_, fun p hp => ?_⟩
    · have hs' : s ∈ (f c x).1 :: (adoptL f (f c x).2.2 xs).1 := hs
      rcases List.mem_cons.1 hs' with rfl | hs'
      · exact h1
      · exact h3 s hs'
    · have hp' : p ∈ (f c x).2.1 ++ (adoptL f (f c x).2.2 xs).2.1 := hp
      rcases List.mem_append.1 hp' with hp' | hp'
      · exact h2 p hp'
      · exact h4 p hp'

theorem adopt2_nr {bs : List Nat} {id c : Nat} (hc : cls id ≠ d) (hd : d < 4096) (hb : id ∉ bs) (r : RS) : (nr2 id (adopt2 d bs c r).1 ∧ ∀ ls, (adopt2 d bs c r).1 ≠ .tup ls) ∧ ∀ p ∈ (adopt2 d bs c r).2.1, cls p.1 = d ∧ nrF2 id p.2 := by
  have one : ∀ r, (∀ ls, r ≠ RS.ag ls) → (nr2 id (adopt1 d bs c r).1 ∧ ∀ ls, (adopt1 d bs c r).1 ≠ .tup ls) ∧ ∀ p ∈ (adopt1 d bs c r).2.1, cls p.1 = d ∧ nrF2 id p.2 := by
    intro r _
    obtain ⟨h1, h2, h3⟩ := adopt1_nr (c := c) hc hd hb r
    exact ⟨⟨nr2_of_S (nrS_leaf h2 h1), fun ls e => by rw [e] at h2; cases h2⟩, h3⟩
  cases r with
  | ag ls =>
    obtain ⟨h1, h2⟩ := adoptL_nr (f := adopt1 d bs) (Q := nr1 id) (R := fun p => cls p.1 = d ∧ nrF2 id p.2) (fun c r => let ⟨a, _, b⟩ := adopt1_nr (c := c) hc hd hb r; ⟨a, b⟩) ls c
    exact ⟨⟨h1, fun ls' e => by cases e⟩, h2⟩
  | pv r => exact one (.pv r) (by simp)
  | row es sz u => exact one (.row es sz u) (by simp)
  | tup ls => exact one (.tup ls) (by simp)
  | vw p o l => exact one (.vw p o l) (by simp)

theorem adopt_nr {bs : List Nat} {id : Nat} (hc : cls id ≠ d) (hd : d < 4096) (hb : id ∉ bs) (r : RS) : nrS id (adopt d bs r).1 ∧ ∀ p ∈ (adopt d bs r).2, cls p.1 = d ∧ nrF2 id p.2 := by
  cases r with
  | tup ls =>
    obtain ⟨h1, h2⟩ := adoptL_nr (f := adopt2 d bs) (Q := nr2 id) (R := fun p => cls p.1 = d ∧ nrF2 id p.2) (fun c r => let ⟨a, b⟩ := adopt2_nr (c := c) hc hd hb r; ⟨a.1, b⟩) ls 0
    exact ⟨h1, h2⟩
  | pv r => obtain ⟨⟨h1, h3⟩, h2⟩ := adopt2_nr (c := 0) hc hd hb (.pv r); exact ⟨nrS_of2 h3 h1, h2⟩
  | row es sz u => obtain ⟨⟨h1, h3⟩, h2⟩ := adopt2_nr (c := 0) hc hd hb (.row es sz u); exact ⟨nrS_of2 h3 h1, h2⟩
  | ag ls => obtain ⟨⟨h1, h3⟩, h2⟩ := adopt2_nr (c := 0) hc hd hb (.ag ls); exact ⟨nrS_of2 h3 h1, h2⟩
  | vw p o l => obtain ⟨⟨h1, h3⟩, h2⟩ := adopt2_nr (c := 0) hc hd hb (.vw p o l); exact ⟨nrS_of2 h3 h1, h2⟩

end Go.VAI

namespace Go.VAI
variable {P : Program} {σ σ' : St} {d : Nat} {o : Oper}

theorem ne_of_cls {id : Nat} (h : cls id ≠ d) (hd : d < 4096) : d ≠ id := fun e => h (by rw [← e]; exact cls_lt hd)

theorem adopt_cls {bs : List Nat} (hd : d < 4096) (r : RS) : ∀ p ∈ (adopt d bs r).2, cls p.1 = d := by
  have hcl : ∀ c, cls (d + 4096 * c) = d := fun c => by simp only [cls]; omega
  have h1 : ∀ c r, True ∧ ∀ p ∈ (adopt1 d bs c r).2.1, cls p.1 = d := by
    intro c r
    cases r with
    | row es sz u => cases u <;> simp [adopt1, hcl]
    | _ => simp [adopt1]
  have h2 : ∀ c r, True ∧ ∀ p ∈ (adopt2 d bs c r).2.1, cls p.1 = d := by
    intro c r
    cases r with
    | ag ls => exact ⟨trivial, (adoptL_nr (f := adopt1 d bs) (Q := fun _ => True) (R := fun p => cls p.1 = d) h1 ls c).2⟩
    | pv r => exact h1 c (.pv r)
    | row es sz u => exact h1 c (.row es sz u)
    | tup ls => exact h1 c (.tup ls)
    | vw p o l => exact h1 c (.vw p o l)
  cases r with
  | tup ls => exact (adoptL_nr (f := adopt2 d bs) (Q := fun _ => True) (R := fun p => cls p.1 = d) h2 ls 0).2
  | pv r => exact (h2 0 (.pv r)).2
  | row es sz u => exact (h2 0 (.row es sz u)).2
  | ag ls => exact (h2 0 (.ag ls)).2
  | vw p o l => exact (h2 0 (.vw p o l)).2

theorem refsOf_nr {A : Ar} {id : Nat} (hf : Fr σ id) {s : Slot} (hs : nrS id s) {r : PV} (hp : toPV A σ s = some r) : id ∉ refsOf σ s := by
  cases s with
  | clo f ls =>
    simp only [toPV] at hp
    split at hp
    · rename_i hall
      simp only [refsOf, List.mem_flatMap, not_exists, not_and]
      intro x hx
      exact fresh_refs2 hf.fresh (nr2_of_S (nrS_leaf (List.all_eq_true.1 hall x hx) (hs x hx)))
    · cases hp
  | ag ls => exact fresh_refs2 hf.fresh (s := .ag ls) hs
  | pv r b0 => exact fresh_refs2 hf.fresh (s := .pv r b0) hs
  | own i sub => exact fresh_refs2 hf.fresh (s := .own i sub) hs
  | ref i o => exact fresh_refs2 hf.fresh (s := .ref i o) hs
  | rref i x o => exact fresh_refs2 hf.fresh (s := .rref i x o) hs
  | lf i x o yl => exact fresh_refs2 hf.fresh (s := .lf i x o yl) hs
  | tup ls => simp [refsOf, refs2, refs1]
  | undef => simp [refsOf, refs2, refs1]
  | dead => simp [refsOf, refs2, refs1]

theorem aopN_ends {k : Slot → List (Nat × File) → Prop} (h : aopN (stdA P) o d σ k) : Ends P o d σ k := by
  have hok : ∀ {X : Prop}, (if okD d then X else False) → okD d = true := by
    intro X hx
    split at hx
    · assumption
    · exact hx.elim
  have blt : ∀ {X : Prop}, (if okD d then X else False) → (d < 4096 ∧ okD d = true) ∧ X := by
    intro X hx
    split at hx
    · rename_i hb; exact ⟨⟨(okD_lt hb).2, hb⟩, hx⟩
    · exact hx.elim
  have bl : ∀ {X : Prop}, okD d = true → X → (if okD d then X else False) := by
    intro X hd hx
    rw [if_pos hd]; exact hx
  have mv : ∀ x, (o.op = .move x ∨ o.op = .assign x) → (∀ k, aopN (stdA P) o d σ k = (if isNilSl x then (match elemOf o.type with
      | some (_, e) => if okD d then k (.own d none) [(d, .row [] e.size .free false)] else False
      | none => False) else k (eval σ x) [])) → Ends P o d σ k := by
    intro x hop he
    rw [he] at h
    by_cases hx : isNilSl x = true
    · rw [if_pos hx] at h
      have hm : makes o = true := by
        obtain ⟨dst, op, ty, pos, after, guard⟩ := o
        rcases hop with hop | hop <;> (simp only at hop; subst hop; exact hx)
      cases hel : elemOf o.type with
      | none => rw [hel] at h; exact h.elim
      | some p =>
        obtain ⟨e0, e⟩ := p
        rw [hel] at h
        obtain ⟨⟨hd, hd'⟩, h⟩ := blt h
        exact ends_file hm (cls_lt hd) h (fun k' hk' => by rw [he, if_pos hx, hel]; exact bl hd' hk') (fun id h1 h2 => ⟨ne_of_cls h1 hd, by simp [nrF2, rubs]⟩)
    · rw [if_neg hx] at h
      exact ends_leaf h (fun k' hk' => by rw [he, if_neg hx]; exact hk') (fun id _ h2 => nr_eval h2 x)
  cases hop : o.op with
  | move x => exact mv x (.inl hop) (fun k => by unfold aopN; rw [hop]; rfl)
  | assign x => exact mv x (.inr hop) (fun k => by unfold aopN; rw [hop]; rfl)
  | pick c x y =>
    have he : ∀ k, aopN (stdA P) o d σ k = _ := fun k => by unfold aopN; rw [hop]
    rw [he] at h
    simp only at h
    split at h
    · rename_i t ht
      split at h
      · exact ends_leaf h (fun k' hk' => by rw [he]; simp only [ht]; exact hk') (fun id _ h2 => nr_eval h2 x)
      · exact ends_leaf h (fun k' hk' => by rw [he]; simp only [ht]; exact hk') (fun id _ h2 => nr_eval h2 y)
    · exact h.elim
  | alloc t =>
    have hm : makes o = true := by obtain ⟨dst, op, ty, pos, after, guard⟩ := o; simp only at hop; subst hop; rfl
    have he : ∀ k, aopN (stdA P) o d σ k = _ := fun k => by unfold aopN; rw [hop]
    rw [he] at h
    simp only at h
    split at h
    · rename_i i ht
      obtain ⟨⟨hd, hd'⟩, h⟩ := blt h
      refine ends_file hm (cls_lt hd) h (fun k' hk' => by rw [he]; simp only [ht]; exact bl hd' hk') (fun id h1 h2 => ⟨ne_of_cls h1 hd, fun s hs => ?_⟩)
      obtain ⟨x, _, rfl⟩ := List.mem_map.1 hs
      show id ∉ ([] : List Nat); simp
    · exact h.elim
  | box t x =>
    have hm : makes o = true := by obtain ⟨dst, op, ty, pos, after, guard⟩ := o; simp only at hop; subst hop; rfl
    have he : ∀ k, aopN (stdA P) o d σ k = _ := fun k => by unfold aopN; rw [hop]
    rw [he] at h
    simp only at h
    split at h
    · rename_i i ht
      obtain ⟨⟨hd, hd'⟩, h⟩ := blt h
      split at h
      · rename_i hl
        refine ends_file hm (cls_lt hd) h (fun k' hk' => by rw [he]; simp only [ht, if_pos hl]; exact bl hd' hk') (fun id h1 h2 => ⟨ne_of_cls h1 hd, fun s hs => ?_⟩)
        have h3 := nr_sl (nr_eval h2 x) s hs
        have h4 := List.all_eq_true.1 hl.2 s hs
        cases s <;> first | exact h3 | simp [liveS] at h4 | exact trivial
      · exact h.elim
    · exact h.elim
  | build t ps =>
    have he : ∀ k, aopN (stdA P) o d σ k = _ := fun k => by unfold aopN; rw [hop]
    rw [he] at h
    simp only at h
    split at h
    · rename_i i ht
      split at h
      · rename_i ls hls
        split at h
        · rename_i hag
          refine ends_leaf h (fun k' hk' => by rw [he]; simp only [ht, hls, if_pos hag]; exact hk') (fun id _ h2 => ?_)
          exact fillS_nr h2 hls (fun s hs => by obtain ⟨x, _, rfl⟩ := List.mem_map.1 hs; show id ∉ ([] : List Nat); simp)
        · exact h.elim
      · exact h.elim
    · exact h.elim
  | buildSlice t n ps =>
    have hm : makes o = true := by obtain ⟨dst, op, ty, pos, after, guard⟩ := o; simp only at hop; subst hop; rfl
    have he : ∀ k, aopN (stdA P) o d σ k = _ := fun k => by unfold aopN; rw [hop]
    rw [he] at h
    simp only at h
    split at h
    · rename_i e0 e ht
      split at h
      · rename_i hn
        obtain ⟨⟨hd, hd'⟩, h⟩ := blt h
        split at h
        · rename_i es hes
          refine ends_file hm (cls_lt hd) h (fun k' hk' => by rw [he]; simp only [ht, if_pos hn, hes]; exact bl hd' hk') (fun id h1 h2 => ⟨ne_of_cls h1 hd, rub_join (by simp [rubs]) ?_⟩)
          simp only [List.mem_flatMap, not_exists, not_and]
          exact fun y _ => fresh_refs2 h2.fresh (nr2_of_S (nr_eval h2 y.2))
        · exact h.elim
      · exact h.elim
    · exact h.elim
  | load t x =>
    have he : ∀ k, aopN (stdA P) o d σ k = _ := fun k => by unfold aopN; rw [hop]
    rw [he] at h
    simp only at h
    split at h
    · rename_i i ht
      obtain ⟨s, h1, h2, h3⟩ := loadS_ends h
      exact ends_leaf h1 (fun k' hk' => by rw [he]; simp only [ht]; exact h2 _ hk') (fun id _ hf => h3 id hf (nr_eval hf x))
    · exact h.elim
  | binOp op t x y t' =>
    have he : ∀ k, aopN (stdA P) o d σ k = _ := fun k => by unfold aopN; rw [hop]
    rw [he] at h
    obtain ⟨r, h1, h2⟩ := binS_ends h
    exact ends_leaf h1 (fun k' hk' => by rw [he]; exact h2 _ hk') (fun id _ _ => nrS_pv)
  | unOp op t x =>
    have he : ∀ k, aopN (stdA P) o d σ k = _ := fun k => by unfold aopN; rw [hop]
    rw [he] at h
    obtain ⟨r, h1, h2⟩ := unS_ends h
    exact ends_leaf h1 (fun k' hk' => by rw [he]; exact h2 _ hk') (fun id _ _ => nrS_pv)
  | convert t' t x =>
    have he : ∀ k, aopN (stdA P) o d σ k = _ := fun k => by unfold aopN; rw [hop]
    rw [he] at h
    simp only at h
    split at h
    · rename_i i ht
      obtain ⟨r, h1, h2⟩ := convS_ends h
      exact ends_leaf h1 (fun k' hk' => by rw [he]; simp only [ht]; exact h2 _ hk') (fun id _ _ => nrS_pv)
    · exact h.elim
  | makeFunc fn first caps =>
    cases fn with
    | func f =>
      have he : ∀ k, aopN (stdA P) o d σ k = _ := fun k => by unfold aopN; rw [hop]
      rw [he] at h
      simp only at h
      split at h
      · rename_i hf
        refine ends_leaf h (fun k' hk' => by rw [he]; simp only [if_pos hf]; exact hk') (fun id _ h2 => ?_)
        intro s hs
        obtain ⟨x, _, rfl⟩ := List.mem_map.1 hs
        exact nr2_1 (nr2_of_S (nr_eval h2 x))
      · exact h.elim
    | _ => unfold aopN at h; rw [hop] at h; exact h.elim
  | makeSlice t l c =>
    have hm : makes o = true := by obtain ⟨dst, op, ty, pos, after, guard⟩ := o; simp only at hop; subst hop; rfl
    have he : ∀ k, aopN (stdA P) o d σ k = _ := fun k => by unfold aopN; rw [hop]
    rw [he] at h
    simp only at h
    split at h
    · rename_i e0 e k0 n ht hn
      split at h
      · rename_i hs
        split at h
        · rename_i z hz
          obtain ⟨h0, hf, h⟩ := h
          obtain ⟨⟨hd, hd'⟩, h⟩ := blt h
          exact ends_file hm (cls_lt hd) h (fun k' hk' => by rw [he]; simp only [ht, hn, if_pos hs, hz]; exact ⟨h0, hf, bl hd' hk'⟩) (fun id h1 h2 => ⟨ne_of_cls h1 hd, by simp [nrF2, rubs]⟩)
        · exact h.elim
      · exact h.elim
    · exact h.elim
  | slice t x lo hi mx =>
    have he : ∀ k, aopN (stdA P) o d σ k = _ := fun k => by unfold aopN; rw [hop]
    rw [he] at h
    simp only at h
    split at h
    · rename_i e0 e hmx ht
      obtain ⟨s, h1, h2, h3⟩ := sliceS_ends h
      exact ends_leaf h1 (fun k' hk' => by rw [he]; simp only [ht]; exact h2 _ hk') (fun id _ hf => h3 id (nr_eval hf x))
    · exact h.elim
  | fieldAddr t x f =>
    have he : ∀ k, aopN (stdA P) o d σ k = _ := fun k => by unfold aopN; rw [hop]
    rw [he] at h
    simp only at h
    split at h
    · rename_i i ht
      split at h
      · rename_i hl
        split at h
        · rename_i s hs
          refine ends_leaf h (fun k' hk' => by rw [he]; simp only [ht, if_pos hl, hs]; exact hk') (fun id _ h2 => ?_)
          have hx := nr_eval h2 x
          unfold fieldAddrS at hs
          split at hs
          · split at hs
            · split at hs
              · cases hs
              · split at hs
                · rename_i hq; cases hs; rw [hq] at hx; exact hx
                · rename_i hq; cases hs; rw [hq] at hx; exact hx
                · rename_i hq; split at hs
                  · cases hs; rw [hq] at hx; exact hx
                  · cases hs
                · cases hs
            · cases hs
          · cases hs
        · exact h.elim
      · exact h.elim
    · exact h.elim
  | field t x f =>
    have he : ∀ k, aopN (stdA P) o d σ k = _ := fun k => by unfold aopN; rw [hop]
    rw [he] at h
    simp only at h
    split at h
    · rename_i i ht
      split at h
      · rename_i s hs
        refine ends_leaf h (fun k' hk' => by rw [he]; simp only [ht, hs]; exact hk') (fun id _ h2 => ?_)
        have hx := nr_eval h2 x
        unfold fieldS at hs
        split at hs
        · split at hs
          · split at hs
            · rename_i ls hq
              rw [hq] at hx
              split at hs
              · have hp : ∀ (a b : Nat), ∀ y ∈ prt a b ls, nr1 id y := fun a b y hy => hx y (List.mem_of_mem_drop (List.mem_of_mem_take hy))
                unfold ofSleaves at hs
                split at hs
                · cases hs; exact hp _ _
                · split at hs
                  · rename_i y hy
                    split at hs
                    · rename_i hl; cases hs; exact nrS_leaf hl (hp _ _ _ (by rw [hy]; simp))
                    · cases hs
                  · cases hs
              · cases hs
            · rename_i ls bs hq
              rw [hq] at hx
              split at hs
              · split at hs
                · cases hs; exact nrS_mkpv hx
                · cases hs
              · cases hs
            · cases hs
          · cases hs
        · cases hs
      · exact h.elim
    · exact h.elim
  | indexAddr t x ix =>
    have he : ∀ k, aopN (stdA P) o d σ k = _ := fun k => by unfold aopN; rw [hop]
    rw [he] at h
    simp only at h
    split at h
    · rename_i e0 e ht
      obtain ⟨s, h1, h2, h3⟩ := indexAddrS_ends h
      exact ends_leaf h1 (fun k' hk' => by rw [he]; simp only [ht]; exact h2 _ hk') (fun id _ hf => h3 id (nr_eval hf x))
    · exact h.elim
  | extract x i =>
    have he : ∀ k, aopN (stdA P) o d σ k = _ := fun k => by unfold aopN; rw [hop]
    rw [he] at h
    simp only at h
    split at h
    · rename_i ls hl
      split at h
      · rename_i s hs
        split at h
        · exact h.elim
        · rename_i hnt
          refine ends_leaf h (fun k' hk' => by rw [he]; simp only [hl, hs, if_neg hnt]; exact hk') (fun id _ h2 => ?_)
          have hx := nr_eval h2 x
          rw [hl] at hx
          have := hx s (List.mem_of_getElem? hs)
          exact nrS_of2 (fun ls' e => hnt (by rw [e]; rfl)) this
      · exact h.elim
    · exact h.elim
  | call c =>
    have he : ∀ k, aopN (stdA P) o d σ k = _ := fun k => by unfold aopN; rw [hop]
    rw [he] at h
    simp only at h
    split at h
    · rename_i f hcc
      have hm : makes o = true := by
        obtain ⟨dst, op, ty, pos, after, guard⟩ := o
        simp only at hop; subst hop
        obtain ⟨cal, args, at'⟩ := c
        simp only at hcc; subst hcc; rfl
      obtain ⟨⟨hd, hd'⟩, h⟩ := blt h
      split at h
      · rename_i ps hps
        obtain ⟨hcal, rs, outs, h, hdoes⟩ := h
        split at h
        · rename_i hout
          have hbs : ∀ id, Fr σ id → id ∉ (c.args.toList.map (eval σ)).flatMap (refsOf σ) := by
            intro id h2 hm'
            obtain ⟨s, hs, hm'⟩ := List.mem_flatMap.1 hm'
            obtain ⟨x, _, rfl⟩ := List.mem_map.1 hs
            obtain ⟨r, hr⟩ := Option.isSome_iff_exists.1 (optAll_mem hps _ hs)
            exact refsOf_nr h2 (nr_eval h2 x) hr hm'
          refine ⟨(adopt d ((c.args.toList.map (eval σ)).flatMap (refsOf σ)) rs).1, (adopt d ((c.args.toList.map (eval σ)).flatMap (refsOf σ)) rs).2, h, fun k' hk' => ?_, fun p hp => ?_, (fun hh => by rw [hm] at hh; cases hh), fun id h1 h2 => ?_⟩
          · rw [he]; simp only [hcc, hps]; exact bl hd' ⟨hcal, rs, outs, by simp only [if_pos hout]; exact hk', hdoes⟩
          · exact adopt_cls hd _ p hp
          · obtain ⟨q1, q2⟩ := adopt_nr h1 hd (hbs id h2) rs
            exact ⟨q1, fun p hp => (q2 p hp).2⟩
        · exact h.elim
      · exact h.elim
    · rename_i hcc
      split at h
      · rename_i x t hx ht
        split at h
        · rename_i e n h1 h2
          exact ends_leaf h (fun k' hk' => by rw [he]; simp only [hcc, hx, ht, h1, h2]; exact hk') (fun id _ _ => nrS_pv)
        · exact h.elim
      · exact h.elim
    · rename_i hcc
      split at h
      · rename_i x y hx
        split at h
        · rename_i k1 m k2 n h1 h2
          split at h
          · rename_i hk
            exact ends_leaf h (fun k' hk' => by rw [he]; simp only [hcc, hx, h1, h2, if_pos hk]; exact hk') (fun id _ _ => nrS_pv)
          · exact h.elim
        · exact h.elim
      · exact h.elim
    · rename_i hcc
      split at h
      · rename_i x y hx
        split at h
        · rename_i k1 m k2 n h1 h2
          split at h
          · rename_i hk
            exact ends_leaf h (fun k' hk' => by rw [he]; simp only [hcc, hx, h1, h2, if_pos hk]; exact hk') (fun id _ _ => nrS_pv)
          · exact h.elim
        · exact h.elim
      · exact h.elim
    · exact h.elim
  | _ => unfold aopN at h; rw [hop] at h; exact h.elim

end Go.VAI

namespace Go.VAI
variable {P : Program} {E : Env} {σ σ' : St} {d : Nat} {o : Oper}

theorem fr_putFs {id : Nat} : ∀ {fs : List (Nat × File)} {σ : St}, Fr σ id → (∀ p ∈ fs, nrF2 id p.2) → (∀ p ∈ fs, p.1 ≠ id) → Fr (putFs σ fs) id
  | [], σ, h, _, _ => h
  | (i, f) :: fs, σ, h, h1, h2 => by
    refine fr_putFs (σ := putF σ i f) ⟨h.slots, fun j g hj => ?_, ?_⟩ (fun p hp => h1 p (by simp [hp])) (fun p hp => h2 p (by simp [hp]))
    · rcases putF_files.1 hj with ⟨_, e⟩ | ⟨_, hj⟩
      · subst e; exact h1 (i, f) (by simp)
      · exact h.files j g hj
    · cases hq : (putF σ i f).files id with
      | none => rfl
      | some g =>
        rcases putF_files.1 hq with ⟨e, _⟩ | ⟨_, hj⟩
        · exact absurd e.symm (h2 (i, f) (by simp))
        · rw [h.none] at hj; cases hj

theorem fr_put {id : Nat} {s : Slot} (h : Fr σ id) (hs : nrS id s) : Fr (put σ d s) id := by
  refine ⟨fun k => ?_, h.files, h.none⟩
  show nrS id (upd σ.slots d s k)
  unfold upd
  split
  · exact hs
  · exact h.slots k

/-! ### Regions in any order, told of states -/

def aopAt (A : Ar) (ops : Array Oper) (i : Nat) (σ : St) (K : St → Prop) : Prop := match ops[i]? with
  | some o => aopG A ops o σ K
  | none => K σ

def aany (A : Ar) (ops : Array Oper) : Nat → Array Bool → St → (St → Prop) → Prop
  | 0, listed, σ, K => Region.ready .any ops listed = [] ∧ K σ
  | fuel + 1, listed, σ, K => (Region.ready .any ops listed = [] → K σ) ∧ ∀ i ∈ Region.ready .any ops listed, aopAt A ops i σ (fun σ' => aany A ops fuel (listed.setIfInBounds i true) σ' K)

theorem aany_ok (hT : TTok P) {ops : Array Oper} {Q : Exit → Act → World → Prop} {K : St → Prop} (hQ : ∀ a w, Nx E K a w → Q .normal a w) : ∀ (fuel : Nat) (listed : Array Bool) {M : Mp} {σ : St} {a : Act} {w : World}, G E M σ a w → aany (stdA P) ops fuel listed σ K → wpAny P .any ops Q fuel listed a w
  | 0, listed, M, σ, a, w, hg, h => ⟨h.1, hQ _ _ ⟨M, σ, hg, h.2⟩⟩
  | fuel + 1, listed, M, σ, a, w, hg, h => by
    refine ⟨fun h0 => hQ _ _ ⟨M, σ, hg, h.1 h0⟩, fun i hi => ?_⟩
    have hi' := h.2 i hi
    unfold aopAt at hi'
    unfold wpOp
    split
    · rename_i ho
      rw [ho] at hi'
      exact aany_ok hT hQ fuel _ hg hi'
    · rename_i o ho
      rw [ho] at hi'
      have := aopG_ok (Q := Q) hT hg hi' (N := wpAny P .any ops Q fuel (listed.setIfInBounds i true)) (fun a w ⟨M', σ', hg', h'⟩ => aany_ok hT hQ fuel _ hg' h')
      split
      · rename_i hw; rw [if_pos hw] at this; exact .inl this
      · rename_i hw; rw [if_neg hw] at this; exact this

/-- The same in a world that differs in nothing that is told of. -/
theorem G.world {M : Mp} {a : Act} {w w' : World} (hg : G E M σ a w) (h1 : w'.heap = w.heap) (h2 : w'.os = w.os) (h3 : TapeLe w w') (h4 : w'.output = w.output) : G E M σ a w' := by
  have hcls : ∀ id, cls id ≠ 4096 := fun id => by simp only [cls]; omega
  have hgr : Grow 4096 M M w w' := {
    heap := fun b _ => by rw [h1]
    size := by rw [h1]; exact Nat.le_refl _
    κ := fun _ _ => rfl
    κn := fun b j hb hk => by have := (hg.own _ _ hk); omega
    blk := fun _ _ => ⟨rfl, rfl⟩
    os := h2
    tape := h3
    out := h4 }
  exact hg.grow hgr (fun id h => absurd h (hcls id)) (fun id _ h => absurd h (hcls id)) (fun id _ _ => hcls id) (fs := []) (by simp) (fun id _ _ _ h => absurd h (hcls id)) (fun id _ h => absurd h (hcls id))

theorem region_any (hT : TTok P) (hm : P.follows .mixedOrders = true) {M : Mp} {a : Act} {w : World} {K : St → Prop} {Q : Exit → Act → World → Prop} (hg : G E M σ a w) {id : Nat} {ops : Array Oper}
    (h : aany (stdA P) ops ops.size (Array.replicate ops.size false) σ K) (hQ : ∀ a w, Nx E K a w → Q .normal a w) : (Code.region id ops true).wp P Q a w :=
  wp_region_any hm (aany_ok hT hQ _ _ (hg.world (w' := { w with drawn := w.drawn + 1 }) rfl rfl ⟨rfl, Nat.le_succ _⟩ rfl) h)

end Go.VAI

namespace Go.VAI
variable {P : Program} {E : Env} {σ σ' : St} {ops : Array Oper}

/-! ### Two calm operations change places -/

def upS (σ : St) (d : Nat) (s : Slot) (fs : List (Nat × File)) : St := put (putFs σ fs) d s

theorem upS_n {d : Nat} {s : Slot} : ∀ {fs : List (Nat × File)} {σ : St}, (upS σ d s fs).n = σ.n
  | [], _ => rfl
  | (i, f) :: fs, σ => upS_n (fs := fs) (σ := putF σ i f)

theorem upS_slots {d : Nat} {s : Slot} {fs : List (Nat × File)} : (upS σ d s fs).slots = upd σ.slots d s := by
  show upd (putFs σ fs).slots d s = _
  rw [putFs_slots.1]

theorem upS_files {d : Nat} {s : Slot} {fs : List (Nat × File)} : (upS σ d s fs).files = (putFs σ fs).files := rfl

theorem putFs_off {j : Nat} : ∀ {fs : List (Nat × File)} {σ : St}, (∀ p ∈ fs, p.1 ≠ j) → (putFs σ fs).files j = σ.files j
  | [], _, _ => rfl
  | (i, f) :: fs, σ, h => by
    show (putFs (putF σ i f) fs).files j = _
    rw [putFs_off (fun p hp => h p (by simp [hp]))]
    show upd σ.files i (some f) j = _
    unfold upd
    rw [if_neg (fun e => h (i, f) (by simp) e.symm)]

theorem putFs_same {j : Nat} : ∀ {fs : List (Nat × File)} {σ σ' : St}, σ.files j = σ'.files j → (putFs σ fs).files j = (putFs σ' fs).files j
  | [], _, _, h => h
  | (i, f) :: fs, σ, σ', h => by
    show (putFs (putF σ i f) fs).files j = (putFs (putF σ' i f) fs).files j
    refine putFs_same ?_
    show upd σ.files i (some f) j = upd σ'.files i (some f) j
    unfold upd
    split
    · rfl
    · exact h

theorem St.ext' {σ σ' : St} (h1 : σ.n = σ'.n) (h2 : σ.slots = σ'.slots) (h3 : σ.files = σ'.files) : σ = σ' := by
  cases σ; cases σ'; simp only at h1 h2 h3; subst h1 h2 h3; rfl

theorem upS_comm {d d' : Nat} {s s' : Slot} {fs fs' : List (Nat × File)} (hd : d ≠ d') (h : ∀ p ∈ fs, ∀ q ∈ fs', p.1 ≠ q.1) : upS (upS σ d s fs) d' s' fs' = upS (upS σ d' s' fs') d s fs := by
  refine St.ext' (by simp only [upS_n]) ?_ ?_
  · simp only [upS_slots]
    funext k
    unfold upd
    by_cases h1 : k = d
    · by_cases h2 : k = d'
      · exact absurd (h1.symm.trans h2) hd
      · rw [if_neg h2, if_pos h1, if_pos h1]
    · by_cases h2 : k = d'
      · rw [if_pos h2, if_neg h1, if_pos h2]
      · rw [if_neg h2, if_neg h1, if_neg h1, if_neg h2]
  · funext j
    show (putFs (upS σ d s fs) fs').files j = (putFs (upS σ d' s' fs') fs).files j
    by_cases hj : ∃ p ∈ fs, p.1 = j
    · obtain ⟨p, hp, rfl⟩ := hj
      rw [putFs_off (fs := fs') (fun q hq => fun e => h p hp q hq e.symm)]
      refine putFs_same (σ' := upS σ d' s' fs') (fs := fs) ?_
      rw [upS_files, putFs_off (fs := fs') (fun q hq => fun e => h p hp q hq e.symm)]
    · have hj' : ∀ p ∈ fs, p.1 ≠ j := fun p hp e => hj ⟨p, hp, e⟩
      rw [putFs_off (fs := fs) hj']
      refine (putFs_same (σ' := σ) (fs := fs') ?_).trans rfl
      rw [upS_files, putFs_off hj']

/-- σ' is as σ in what an operation and its guard look at. -/
structure Looks (ops : Array Oper) (o : Oper) (σ σ' : St) : Prop where
  agree : Agree o σ σ'
  guard : ∀ j w t, o.guard = some (j, w) → (ops[j]?).bind (·.dst) = some t → σ'.slots t = σ.slots t
  n : σ'.n = σ.n

def FrC (o : Oper) (σ : St) : Prop := makes o = true → ∀ d, o.dst = some d → ∀ id, cls id = d → Fr σ id

theorem calm_dst {o : Oper} (h : calm o = true) : ∃ d, o.dst = some d := by
  unfold calm at h
  cases hd : o.dst with
  | none => rw [hd] at h; simp at h
  | some d => exact ⟨d, rfl⟩

theorem calm_out {o : Oper} {d : Nat} (hc : calm o = true) (hd : o.dst = some d) (hfr : FrC o σ) {K : St → Prop} (h : aopG (stdA P) ops o σ K) :
    ∃ s fs, K (upS σ d s fs) ∧ (∀ p ∈ fs, cls p.1 = d) ∧ (makes o = false → fs = []) ∧ (∀ id, cls id ≠ d → Fr σ id → nrS id s ∧ ∀ p ∈ fs, nrF2 id p.2) ∧
      ∀ (σ' : St) (K' : St → Prop), Looks ops o σ σ' → FrC o σ' → K' (upS σ' d s fs) → aopG (stdA P) ops o σ' K' := by
  have act : aop (stdA P) o σ K → ∃ s fs, K (upS σ d s fs) ∧ (∀ p ∈ fs, cls p.1 = d) ∧ (makes o = false → fs = []) ∧ (∀ id, cls id ≠ d → Fr σ id → nrS id s ∧ ∀ p ∈ fs, nrF2 id p.2) ∧
      ∀ (σ' : St) (K' : St → Prop), Looks ops o σ σ' → FrC o σ' → K' (upS σ' d s fs) → aop (stdA P) o σ' K' := by
    intro h
    rw [aop_eq hc hd (fun hm id hid => hfr hm d hd id hid)] at h
    obtain ⟨s, fs, h1, h2, h3, h4, h5⟩ := aopN_ends h
    refine ⟨s, fs, h1, h3, h4, h5, fun σ' K' hl hf hK => ?_⟩
    rw [aop_eq hc hd (fun hm id hid => hf hm d hd id hid), aopN_same hl.agree]
    exact h2 _ hK
  have skip : K (putO σ o.dst .undef) → (∀ (σ' : St) (K' : St → Prop), Looks ops o σ σ' → K' (putO σ' o.dst .undef) → aopG (stdA P) ops o σ' K') → ∃ s fs, K (upS σ d s fs) ∧ (∀ p ∈ fs, cls p.1 = d) ∧ (makes o = false → fs = []) ∧ (∀ id, cls id ≠ d → Fr σ id → nrS id s ∧ ∀ p ∈ fs, nrF2 id p.2) ∧
      ∀ (σ' : St) (K' : St → Prop), Looks ops o σ σ' → FrC o σ' → K' (upS σ' d s fs) → aopG (stdA P) ops o σ' K' := by
    intro hK hall
    refine ⟨.undef, [], by rw [hd] at hK; exact hK, by simp, fun _ => rfl, fun id _ _ => ⟨trivial, by simp⟩, fun σ' K' hl _ hK' => hall σ' K' hl (by rw [hd]; exact hK')⟩
  unfold aopG at h
  split at h
  · rename_i hn
    split at h
    · rename_i hg
      obtain ⟨s, fs, h1, h3, h4, h5, h6⟩ := act h
      refine ⟨s, fs, h1, h3, h4, h5, fun σ' K' hl hf hK => ?_⟩
      unfold aopG
      rw [if_pos (by rw [hl.n]; exact hn)]
      simp only [hg]
      exact h6 σ' K' hl hf hK
    · rename_i j want hg
      split at h
      · rename_i t ht
        split at h
        · rename_i b bs hs
          have run : aop (stdA P) o σ K → (∀ (σ' : St) (K' : St → Prop), Looks ops o σ σ' → aopG (stdA P) ops o σ' K' = aop (stdA P) o σ' K') → ∃ s fs, K (upS σ d s fs) ∧ (∀ p ∈ fs, cls p.1 = d) ∧ (makes o = false → fs = []) ∧ (∀ id, cls id ≠ d → Fr σ id → nrS id s ∧ ∀ p ∈ fs, nrF2 id p.2) ∧
              ∀ (σ' : St) (K' : St → Prop), Looks ops o σ σ' → FrC o σ' → K' (upS σ' d s fs) → aopG (stdA P) ops o σ' K' := by
            intro h he
            obtain ⟨s, fs, h1, h3, h4, h5, h6⟩ := act h
            exact ⟨s, fs, h1, h3, h4, h5, fun σ' K' hl hf hK => by rw [he σ' K' hl]; exact h6 σ' K' hl hf hK⟩
          cases b <;> cases want <;> simp only at h
          · refine run h (fun σ' K' hl => ?_)
            unfold aopG
            rw [if_pos (by rw [hl.n]; exact hn)]
            simp only [hg, ht, hl.guard j _ t hg ht, hs]
          · refine skip h (fun σ' K' hl hK => ?_)
            unfold aopG
            rw [if_pos (by rw [hl.n]; exact hn)]
            simp only [hg, ht, hl.guard j _ t hg ht, hs]
            exact hK
          · refine skip h (fun σ' K' hl hK => ?_)
            unfold aopG
            rw [if_pos (by rw [hl.n]; exact hn)]
            simp only [hg, ht, hl.guard j _ t hg ht, hs]
            exact hK
          · refine run h (fun σ' K' hl => ?_)
            unfold aopG
            rw [if_pos (by rw [hl.n]; exact hn)]
            simp only [hg, ht, hl.guard j _ t hg ht, hs]
        · rename_i hs
          refine skip h (fun σ' K' hl hK => ?_)
          unfold aopG
          rw [if_pos (by rw [hl.n]; exact hn)]
          simp only [hg, ht, hl.guard j want t hg ht, hs]
          exact hK
        · exact h.elim
      · exact h.elim
  · exact h.elim

theorem see1_nr {id : Nat} {s : Slot} (h : nr1 id s) : id ∉ see1 s := by
  cases s with
  | own j sub => simp only [see1, List.mem_singleton]; exact fun e => h e.symm
  | ref j o => simp only [see1, List.mem_singleton]; exact fun e => h e.symm
  | rref j i o => simp only [see1, List.mem_singleton]; exact fun e => h e.symm
  | lf j i o yl => simp only [see1, List.mem_singleton]; exact fun e => h e.symm
  | _ => simp [see1]

theorem see2_nr {id : Nat} (hf : Fr σ id) {s : Slot} (h : nr2 id s) : id ∉ see2 σ s := by
  cases s with
  | ag ls =>
    intro hm
    obtain ⟨t, ht, hm⟩ := List.mem_flatMap.1 hm
    exact see1_nr (h t ht) hm
  | ref j o =>
    simp only [see2, List.mem_cons]
    rintro (e | hm)
    · exact h e.symm
    · split at hm
      · rename_i ls hls
        obtain ⟨t, ht, hm⟩ := List.mem_flatMap.1 hm
        exact see1_nr (nr2_1 (hf.files _ _ hls t ht)) hm
      · simp at hm
  | own j sub => exact see1_nr (s := .own j sub) h
  | rref j i o => exact see1_nr (s := .rref j i o) h
  | lf j i o yl => exact see1_nr (s := .lf j i o yl) h
  | _ => simp [see2, see1]

theorem see2_same {s : Slot} (h : ∀ id ∈ see2 σ s, σ'.files id = σ.files id) : see2 σ' s = see2 σ s := by
  cases s with
  | ref j o => simp only [see2]; rw [h j (by simp [see2])]
  | _ => rfl

theorem seeS_same {s : Slot} (h : ∀ id ∈ seeS σ s, σ'.files id = σ.files id) : seeS σ' s = seeS σ s := by
  cases s with
  | clo f ls =>
    simp only [seeS] at h ⊢
    split
    · rename_i hl
      rw [if_pos hl] at h
      exact flatMap_congr (fun t ht => see2_same (fun id hid => h id (List.mem_flatMap.2 ⟨t, ht, hid⟩)))
    · rfl
  | ag ls => exact see2_same (s := .ag ls) h
  | ref j o => exact see2_same (s := .ref j o) h
  | own j o => exact see2_same (s := .own j o) h
  | rref j i o => exact see2_same (s := .rref j i o) h
  | lf j i o yl => exact see2_same (s := .lf j i o yl) h
  | _ => rfl

theorem see2_leaf {id : Nat} (hf : Fr σ id) {s : Slot} (hl : isLeaf s = true) (h : nr1 id s) : id ∉ see2 σ s := by
  refine see2_nr hf ?_
  cases s <;> first | exact h | simp [isLeaf] at hl

theorem seeS_nr {id : Nat} (hf : Fr σ id) {s : Slot} (h : nrS id s) : id ∉ seeS σ s := by
  cases s with
  | clo f ls =>
    simp only [seeS]
    split
    · rename_i hl
      intro hm
      obtain ⟨t, ht, hm⟩ := List.mem_flatMap.1 hm
      exact see2_leaf hf (List.all_eq_true.1 hl t ht) (h t ht) hm
    · simp
  | ag ls => exact see2_nr hf (s := .ag ls) h
  | ref j o => exact see2_nr hf (s := .ref j o) h
  | own j o => exact see2_nr hf (s := .own j o) h
  | rref j i o => exact see2_nr hf (s := .rref j i o) h
  | lf j i o yl => exact see2_nr hf (s := .lf j i o yl) h
  | _ => simp [seeS, see2, see1]

theorem FrC.upS {o : Oper} {d : Nat} {s : Slot} {fs : List (Nat × File)} (h : FrC o σ) (hd : ∀ d', o.dst = some d' → d' ≠ d) (hc : ∀ p ∈ fs, cls p.1 = d)
    (hn : ∀ id, cls id ≠ d → Fr σ id → nrS id s ∧ ∀ p ∈ fs, nrF2 id p.2) : FrC o (upS σ d s fs) := by
  intro hm d' hd' id hid
  have h1 := h hm d' hd' id hid
  have hne : cls id ≠ d := by rw [hid]; exact hd d' hd'
  obtain ⟨h2, h3⟩ := hn id hne h1
  exact fr_put (fr_putFs h1 h3 (fun p hp e => hne (by rw [← e]; exact hc p hp))) h2

/-- What an operation looks at is not touched by another that is apart from it. -/
theorem looks_up {o : Oper} {d : Nat} {s : Slot} {fs : List (Nat × File)} (hl : d ∉ o.looksAt ops) (hfr : ∀ p ∈ fs, Fr σ p.1) : Looks ops o σ (upS σ d s fs) := by
  have hev : ∀ x ∈ o.op.operands, eval (upS σ d s fs) x = eval σ x := by
    intro x hx
    cases x with
    | tmp t =>
      show (upS σ d s fs).slots t = σ.slots t
      rw [upS_slots]
      unfold upd
      rw [if_neg ?_]
      rintro rfl
      exact hl (List.mem_append_left _ (List.mem_filterMap.2 ⟨.tmp t, by simpa using hx, rfl⟩))
    | _ => rfl
  refine ⟨⟨hev, fun x hx id hid => ?_⟩, fun j w t hg ht => ?_, upS_n⟩
  · rw [upS_files]
    refine putFs_off (fun p hp e => ?_)
    subst e
    exact seeS_nr (hfr p hp) (nr_eval (hfr p hp) x) hid
  · rw [upS_slots]
    unfold upd
    rw [if_neg ?_]
    rintro rfl
    exact hl (by unfold Oper.looksAt; rw [hg]; simp only; rw [ht]; simp)

theorem aopG_swap {oi oj : Oper} (ci : calm oi = true) (cj : calm oj = true) (hap : oi.apart ops oj = true) (fi : FrC oi σ) (fj : FrC oj σ) {K : St → Prop}
    (h : aopG (stdA P) ops oi σ (fun σ' => aopG (stdA P) ops oj σ' K)) : aopG (stdA P) ops oj σ (fun σ' => aopG (stdA P) ops oi σ' K) := by
  obtain ⟨a1, a2, a3⟩ := Oper.apart_spec hap
  obtain ⟨di, hdi⟩ := calm_dst ci
  obtain ⟨dj, hdj⟩ := calm_dst cj
  have hne : dj ≠ di := fun e => a2 di hdi (by rw [hdj, e])
  obtain ⟨s, fs, h, hc, hm, hn, hall⟩ := calm_out ci hdi fi h
  have fj1 : FrC oj (upS σ di s fs) := fj.upS (fun d' hd' => by rw [hdj] at hd'; cases hd'; exact hne) hc hn
  obtain ⟨s', fs', h', hc', hm', hn', hall'⟩ := calm_out cj hdj fj1 h
  have fri : ∀ p ∈ fs, Fr σ p.1 := fun p hp => fi (by
    cases hq : makes oi with
    | true => rfl
    | false => rw [hm hq] at hp; simp at hp) di hdi _ (hc p hp)
  have frj : ∀ p ∈ fs', Fr σ p.1 := fun p hp => fj (by
    cases hq : makes oj with
    | true => rfl
    | false => rw [hm' hq] at hp; simp at hp) dj hdj _ (hc' p hp)
  have lj := looks_up (σ := σ) (o := oj) (s := s) (a1 di hdi) fri
  have li := looks_up (σ := σ) (o := oi) (s := s') (a3 dj hdj) frj
  -- j at the old state
  have lj' : Looks ops oj (upS σ di s fs) σ := ⟨⟨fun x hx => (lj.agree.ev x hx).symm, fun x hx id hid => ?_⟩, fun j w t hg ht => (lj.guard j w t hg ht).symm, upS_n.symm⟩
  · refine hall' σ _ lj' fj ?_
    have fi1 : FrC oi (upS σ dj s' fs') := by
      intro hmi d' hd' id hid
      rw [hdi] at hd'; cases hd'
      obtain ⟨s2, fs2, he, hc2, _, hn2, _⟩ := calm_out (K := fun σ' => σ' = upS σ dj s' fs') cj hdj fj (hall' σ _ lj' fj rfl)
      rw [← he]
      exact fi.upS (fun d' hd' => by rw [hdi] at hd'; cases hd'; exact fun e => hne e.symm) hc2 hn2 hmi di hdi id hid
    refine hall _ _ li fi1 ?_
    rw [upS_comm hne (fun p hp q hq e => hne (by rw [← hc' p hp, ← hc q hq, e]))]
    exact h'
  · rw [lj.agree.ev x hx, seeS_same (lj.agree.see x hx)] at hid
    exact (lj.agree.see x hx id hid).symm

end Go.VAI

namespace Go.VAI
variable {P : Program} {E : Env} {ops : Array Oper} {σ : St}

/-! ### What stands ahead of an operation -/

theorem inner_bits (b : Nat → Nat) (i : Nat) : ∀ (l : List Edge) (s : Nat), (l.foldl (fun s e => if Region.binds .any e then s ||| 2 ^ e.on ||| b e.on else s) s).testBit i = true →
    s.testBit i = true ∨ ∃ e ∈ l, Region.binds .any e = true ∧ (e.on = i ∨ (b e.on).testBit i = true)
  | [], s, h => .inl h
  | e :: l, s, h => by
    rw [List.foldl_cons] at h
    rcases inner_bits b i l _ h with h1 | ⟨e', he', h2⟩
    · by_cases hb : Region.binds .any e = true
      · rw [if_pos hb, Nat.testBit_or, Nat.testBit_or, Bool.or_eq_true, Bool.or_eq_true] at h1
        rcases h1 with (h1 | h1) | h1
        · exact .inl h1
        · rw [Nat.testBit_two_pow] at h1
          exact .inr ⟨e, by simp, hb, .inl (by simpa using h1)⟩
        · exact .inr ⟨e, by simp, hb, .inr h1⟩
      · rw [if_neg hb] at h1; exact .inl h1
    · exact .inr ⟨e', by simp [he'], h2⟩

def Bef (ops : Array Oper) (k : Nat) (acc : Array Nat) : Prop :=
  acc.size = k ∧ ∀ j, j < k → ∀ i, (acc.getD j 0).testBit i = true → ∃ o, ops[j]? = some o ∧ ∃ e ∈ o.after, Region.binds .any e = true ∧ (e.on = i ∨ (e.on < j ∧ (acc.getD e.on 0).testBit i = true))

theorem before_spec (ops : Array Oper) : Bef ops ops.size (Region.before ops) := by
  unfold Region.before
  refine Array.foldl_induction (motive := fun k acc => Bef ops k acc) ⟨rfl, fun j hj => absurd hj (Nat.not_lt_zero j)⟩ ?_
  rintro ⟨k, hk⟩ acc ⟨hs, hb⟩
  refine ⟨by simp [hs], fun j hj i hbit => ?_⟩
  simp only at hj
  rcases Nat.lt_or_ge j k with hlt | hge
  · have hget : ∀ (x : Nat) (v : Nat), x < k → (acc.push v).getD x 0 = acc.getD x 0 := by
      intro x v hx
      simp only [Array.getD_eq_getD_getElem?, Array.getElem?_push, hs]
      rw [if_neg (by show ¬ x = k; omega)]
    rw [hget j _ hlt] at hbit
    obtain ⟨o, ho, e, he, hbd, h⟩ := hb j hlt i hbit
    refine ⟨o, ho, e, he, hbd, h.imp id (fun h => ⟨h.1, ?_⟩)⟩
    rw [hget e.on _ (Nat.lt_trans h.1 hlt)]; exact h.2
  · have hjk : j = k := by omega
    subst hjk
    simp only [Array.getD_eq_getD_getElem?, Array.getElem?_push, hs, if_true, Option.getD_some] at hbit
    rw [← Array.foldl_toList] at hbit
    rcases inner_bits (fun x => (acc[x]?).getD 0) i _ 0 hbit with h | ⟨e, he, hbd, h⟩
    · simp at h
    · refine ⟨ops[j], by simp [hk], e, by simpa using he, hbd, h.imp id (fun h => ?_)⟩
      have hlt : e.on < j := by
        rcases Nat.lt_or_ge e.on j with h' | h'
        · exact h'
        · rw [show acc[e.on]? = none from Array.getElem?_eq_none (by rw [hs]; exact h')] at h; simp at h
      refine ⟨hlt, ?_⟩
      simp only [Array.getD_eq_getD_getElem?, Array.getElem?_push, hs]
      rw [if_neg (by show ¬ e.on = j; omega)]; exact h

def Closed (ops : Array Oper) (listed : Array Bool) : Prop := ∀ k o, ops[k]? = some o → listed.getD k true = true → ∀ e ∈ o.after, Region.binds .any e = true → listed.getD e.on false = true

theorem before_listed {listed : Array Bool} (hsz : listed.size = ops.size) (hc : Closed ops listed) : ∀ (j : Nat) (o : Oper), ops[j]? = some o → (∀ e ∈ o.after, Region.binds .any e = true → listed.getD e.on false = true) →
    ∀ i, ((Region.before ops).getD j 0).testBit i = true → listed.getD i false = true := by
  intro j
  induction j using Nat.strongRecOn with
  | ind j ih =>
    intro o ho hall i hbit
    obtain ⟨hs, hb⟩ := before_spec ops
    have hj : j < ops.size := (Array.getElem?_eq_some_iff.1 ho).1
    obtain ⟨o', ho', e, he, hbd, h⟩ := hb j hj i hbit
    rw [ho] at ho'; cases ho'
    rcases h with e1 | ⟨hlt, h⟩
    · rw [← e1]; exact hall e he hbd
    · have h1 := hall e he hbd
      have hk : e.on < ops.size := by omega
      refine ih e.on hlt ops[e.on] (Array.getElem?_eq_getElem hk) (hc _ ops[e.on] (Array.getElem?_eq_getElem hk) ?_) i h
      rw [Array.getD_eq_getD_getElem?] at h1 ⊢
      have hk' : e.on < listed.size := by omega
      rw [Array.getElem?_eq_getElem hk'] at h1 ⊢
      exact h1

/-! ### The order of the text -/

def aopsAt (A : Ar) (ops : Array Oper) : List Nat → St → (St → Prop) → Prop
  | [], σ, K => K σ
  | i :: l, σ, K => aopAt A ops i σ (fun σ' => aopsAt A ops l σ' K)

def Frs (ops : Array Oper) (L : List Nat) (σ : St) : Prop := ∀ i ∈ L, ∀ o, ops[i]? = some o → calm o = true → FrC o σ

theorem aops_at {A : Ar} {K : St → Prop} : ∀ (l : List Oper) (pre : List Oper) {σ : St}, ops.toList = pre ++ l → aops A ops l σ K = aopsAt A ops (List.range' pre.length l.length) σ K
  | [], _, _, _ => rfl
  | o :: l, pre, σ, he => by
    have hget : ops[pre.length]? = some o := by
      have : ops.toList[pre.length]? = some o := by rw [he]; simp
      simpa using this
    simp only [List.length_cons, List.range'_succ, aopsAt, aopAt, hget, aops]
    have : (fun σ' => aops A ops l σ' K) = fun σ' => aopsAt A ops (List.range' (pre.length + 1) l.length) σ' K := funext fun σ' => by
      have := aops_at (A := A) (K := K) l (pre ++ [o]) (σ := σ') (by rw [he]; simp)
      simpa using this
    rw [this]

theorem calm_frs {o : Oper} {L : List Nat} (hc : calm o = true) (hfr : FrC o σ) (hL : Frs ops L σ) (hd : ∀ i ∈ L, ∀ oi, ops[i]? = some oi → calm oi = true → makes oi = true → oi.dst ≠ o.dst) {K : St → Prop}
    (h : aopG (stdA P) ops o σ K) : aopG (stdA P) ops o σ (fun σ' => K σ' ∧ Frs ops L σ') := by
  obtain ⟨d, hdst⟩ := calm_dst hc
  obtain ⟨s, fs, h1, h2, h3, h4, h5⟩ := calm_out hc hdst hfr h
  refine h5 σ _ ⟨⟨fun _ _ => rfl, fun _ _ _ _ => rfl⟩, fun _ _ _ _ _ => rfl, rfl⟩ hfr ⟨h1, fun i hi oi hoi ci hm => ?_⟩
  exact (hL i hi oi hoi ci).upS (fun d' hd' e => hd i hi oi hoi ci hm (by rw [hd', hdst, e])) h2 h4 hm

theorem calm_imp {o : Oper} (hc : calm o = true) (hfr : FrC o σ) {K K' : St → Prop} (hK : ∀ σ', K σ' → K' σ') (h : aopG (stdA P) ops o σ K) : aopG (stdA P) ops o σ K' := by
  obtain ⟨d, hdst⟩ := calm_dst hc
  obtain ⟨s, fs, h1, h2, h3, h4, h5⟩ := calm_out hc hdst hfr h
  exact h5 σ _ ⟨⟨fun _ _ => rfl, fun _ _ _ _ => rfl⟩, fun _ _ _ _ _ => rfl, rfl⟩ hfr (hK _ h1)

theorem move_front {j : Nat} {oj : Oper} (hj : ops[j]? = some oj) (cj : calm oj = true) {L2 : List Nat} {K : St → Prop} : ∀ (L1 : List Nat) {σ : St}, (∀ i ∈ L1, ∃ oi, ops[i]? = some oi ∧ calm oi = true ∧ oi.apart ops oj = true) →
    (L1 ++ j :: L2).Nodup → (∀ i ∈ L1 ++ j :: L2, ∀ k ∈ L1 ++ j :: L2, i ≠ k → ∀ oi ok, ops[i]? = some oi → ops[k]? = some ok → calm oi = true → makes oi = true → oi.dst ≠ ok.dst) →
    Frs ops (L1 ++ j :: L2) σ → aopsAt (stdA P) ops (L1 ++ j :: L2) σ K → aopG (stdA P) ops oj σ (fun σ' => aopsAt (stdA P) ops (L1 ++ L2) σ' K ∧ Frs ops (L1 ++ L2) σ')
  | [], σ, _, hnd, hdst, hfr, h => by
    simp only [List.nil_append, aopsAt, aopAt, hj] at h ⊢
    simp only [List.nil_append, List.nodup_cons] at hnd
    exact calm_frs cj (hfr j (by simp) oj hj cj) (fun i hi => hfr i (by simp [hi])) (fun i hi oi hoi ci hm => hdst i (by simp [hi]) j (by simp) (fun e => hnd.1 (by rw [← e]; exact hi)) oi oj hoi hj ci hm) h
  | i :: L1, σ, hL, hnd, hdst, hfr, h => by
    obtain ⟨oi, hoi, ci, hap⟩ := hL i (by simp)
    have hfi := hfr i (by simp) oi hoi ci
    have hfj := hfr j (by simp) oj hj cj
    simp only [List.cons_append, List.nodup_cons] at hnd
    simp only [List.cons_append, aopsAt, aopAt, hoi] at h
    have h1 := calm_frs (L := L1 ++ j :: L2) ci hfi (fun k hk => hfr k (by simp only [List.cons_append, List.mem_cons]; exact .inr hk)) (fun k hk ok hok ck hm => hdst k (by simp only [List.cons_append, List.mem_cons]; exact .inr hk) i (by simp) (fun e => hnd.1 (by rw [← e]; exact hk)) ok oi hok hoi ck hm) h
    have h2 := calm_imp (K' := fun σ' => aopG (stdA P) ops oj σ' (fun σ' => aopsAt (stdA P) ops (L1 ++ L2) σ' K ∧ Frs ops (L1 ++ L2) σ')) ci hfi (fun σ' h' =>
      move_front hj cj L1 (fun k hk => hL k (by simp [hk])) hnd.2 (fun a ha b hb => hdst a (by simp only [List.cons_append, List.mem_cons]; exact .inr ha) b (by simp only [List.cons_append, List.mem_cons]; exact .inr hb)) h'.2 h'.1) h1
    have h3 := aopG_swap ci cj hap hfi hfj h2
    have h4 := calm_frs (L := i :: (L1 ++ L2)) cj hfj (fun k hk => hfr k (by simp only [List.mem_cons, List.mem_append, List.cons_append] at hk ⊢; rcases hk with h | h | h <;> simp [h])) (fun k hk ok hok ck hm => by
      have hkm : k ∈ i :: L1 ++ j :: L2 := by simp only [List.mem_cons, List.mem_append, List.cons_append] at hk ⊢; rcases hk with h | h | h <;> simp [h]
      have hkj : k ≠ j := by
        rintro rfl
        rcases List.mem_cons.1 hk with rfl | hk
        · exact hnd.1 (by simp)
        · have := hnd.2
          rw [List.nodup_append] at this
          rcases List.mem_append.1 hk with hk | hk
          · exact this.2.2 k hk k (by simp) rfl
          · exact (List.nodup_cons.1 this.2.1).1 hk
      exact hdst k hkm j (by simp) hkj ok oj hok hj ck hm) h3
    refine calm_imp cj hfj (fun σ' h' => ⟨?_, h'.2⟩) h4
    simp only [List.cons_append, aopsAt, aopAt, hoi]
    refine calm_imp ci (h'.2 i (by simp) oi hoi ci) (fun σ'' h'' => h''.1) h'.1

/-! ### A region in whatever order -/

def Ord (ops : Array Oper) (L : List Nat) : Prop := ∀ i ∈ L, ∀ j ∈ L, i < j → ((Region.before ops).getD j 0).testBit i = true

theorem drawOk_spec (h : drawOk ops = true) {j : Nat} {oj : Oper} (hj : ops[j]? = some oj) : (∀ e ∈ oj.after, Region.binds .any e = true → e.on < j) ∧
    ∀ i oi, i < j → ops[i]? = some oi → (((Region.before ops).getD j 0).testBit i = true ∨ ((∀ k ok, k ≤ j → ops[k]? = some ok → calm ok = true) ∧ oi.apart ops oj = true)) ∧
      (oi.dst ≠ oj.dst ∨ ((calm oi = true → makes oi = false) ∧ (calm oj = true → makes oj = false))) := by
  unfold drawOk at h
  have h1 := List.all_eq_true.1 h j (List.mem_range.2 (Array.getElem?_eq_some_iff.1 hj).1)
  simp only [hj, Bool.and_eq_true] at h1
  obtain ⟨h1, h2⟩ := h1
  refine ⟨fun e he hb => ?_, fun i oi hi hoi => ?_⟩
  · have := List.all_eq_true.1 h1 e (by simpa using he)
    simpa [hb, Nat.blt_eq] using this
  · have h3 := List.all_eq_true.1 h2 i (List.mem_range.2 hi)
    simp only [hoi, Bool.and_eq_true, Bool.or_eq_true] at h3
    obtain ⟨h3, h4⟩ := h3
    refine ⟨h3.imp id (fun h3 => ⟨fun k ok hk hok => ?_, h3.2⟩), ?_⟩
    · refine List.all_eq_true.1 h3.1 ok ?_
      have : (ops.toList.take (j + 1))[k]? = some ok := by rw [List.getElem?_take]; rw [if_pos (by omega)]; simpa using hok
      exact List.mem_of_getElem? this
    · rcases h4 with h4 | h4
      · exact .inl (by simpa using h4)
      · refine .inr ⟨fun hc => ?_, fun hc => ?_⟩
        · cases hm : makes oi with
          | false => rfl
          | true => simp [hc, hm] at h4
        · cases hm : makes oj with
          | false => rfl
          | true => simp [hc, hm] at h4

structure Left (ops : Array Oper) (listed : Array Bool) (L : List Nat) : Prop where
  size : listed.size = ops.size
  sorted : L.Pairwise (· < ·)
  mem : ∀ i, i ∈ L ↔ i < ops.size ∧ listed.getD i true = false
  closed : Closed ops listed

theorem getD_tf {listed : Array Bool} {i : Nat} (h : i < listed.size) (a b : Bool) : listed.getD i a = listed.getD i b := by
  simp [Array.getElem?_eq_getElem h]

theorem draw_main (hT : TTok P) (hdr : drawOk ops = true) {Q : Exit → Act → World → Prop} {K : St → Prop} (hQ : ∀ a w, Nx E K a w → Q .normal a w) : ∀ (fuel : Nat) (listed : Array Bool) (L : List Nat) {M : Mp} {σ : St} {a : Act} {w : World}, G E M σ a w →
    Left ops listed L → L.length ≤ fuel → (Ord ops L ∨ Frs ops L σ) → aopsAt (stdA P) ops L σ K → wpAny P .any ops Q fuel listed a w
  | 0, listed, L, M, σ, a, w, hg, hL, hlen, _, h => by
    have : L = [] := List.eq_nil_of_length_eq_zero (by omega)
    subst this
    refine ⟨?_, hQ _ _ ⟨M, σ, hg, h⟩⟩
    cases hr : Region.ready .any ops listed with
    | nil => rfl
    | cons j rs =>
      have hj : j ∈ Region.ready .any ops listed := by rw [hr]; simp
      obtain ⟨h0, o, ho, _⟩ := mem_ready.1 hj
      exact absurd ((hL.mem j).2 ⟨(Array.getElem?_eq_some_iff.1 ho).1, h0⟩) (by simp)
  | fuel + 1, listed, L, M, σ, a, w, hg, hL, hlen, hfr, h => by
    refine ⟨fun hr => ?_, fun j hj => ?_⟩
    · cases L with
      | nil => exact hQ _ _ ⟨M, σ, hg, h⟩
      | cons i L =>
        exfalso
        obtain ⟨hi, hun⟩ := (hL.mem i).1 (by simp)
        have : i ∈ Region.ready .any ops listed := by
          refine mem_ready.2 ⟨hun, ops[i], Array.getElem?_eq_getElem hi, fun e he hb => ?_⟩
          have hlt := (drawOk_spec hdr (Array.getElem?_eq_getElem hi)).1 e he hb
          rw [getD_tf (by rw [hL.size]; omega) false true]
          cases hq : listed.getD e.on true with
          | true => rfl
          | false =>
            have hm := (hL.mem e.on).2 ⟨by omega, hq⟩
            rcases List.mem_cons.1 hm with e1 | hm
            · omega
            · have := (List.pairwise_cons.1 hL.sorted).1 _ hm; omega
        rw [hr] at this; simp at this
    · obtain ⟨hun, oj, hoj, hall⟩ := mem_ready.1 hj
      have hjn := (Array.getElem?_eq_some_iff.1 hoj).1
      have hjL := (hL.mem j).2 ⟨hjn, hun⟩
      obtain ⟨L1, L2, rfl⟩ := List.append_of_mem hjL
      obtain ⟨p1, p2, p3⟩ := List.pairwise_append.1 hL.sorted
      obtain ⟨p4, p5⟩ := List.pairwise_cons.1 p2
      have hnd : (L1 ++ j :: L2).Nodup := hL.sorted.imp (fun h => Nat.ne_of_lt h)
      have hL1 : ∀ i ∈ L1, ((Region.before ops).getD j 0).testBit i ≠ true := by
        intro i hi hb
        have h1 := before_listed hL.size hL.closed j oj hoj hall i hb
        obtain ⟨h2, h3⟩ := (hL.mem i).1 (by simp [hi])
        rw [getD_tf (by rw [hL.size]; exact h2) false true, h3] at h1
        cases h1
      have hLeft : Left ops (listed.setIfInBounds j true) (L1 ++ L2) := by
        refine ⟨by simp [hL.size], hL.sorted.sublist (by simp), fun i => ?_, fun k o ho hk e he hb => ?_⟩
        · constructor
          · intro hi
            have hi' : i ∈ L1 ++ j :: L2 := by rcases List.mem_append.1 hi with h | h <;> simp [h]
            obtain ⟨h1, h2⟩ := (hL.mem i).1 hi'
            refine ⟨h1, ?_⟩
            rw [getD_set_ne true ?_]
            · exact h2
            · rintro rfl
              rcases List.mem_append.1 hi with h | h
              · exact Nat.lt_irrefl _ (p3 j h j (by simp))
              · exact Nat.lt_irrefl _ (p4 j h)
          · rintro ⟨h1, h2⟩
            have hij : j ≠ i := by
              rintro rfl
              rw [Array.getD_eq_getD_getElem?, Array.getElem?_setIfInBounds_self_of_lt (by rw [hL.size]; exact hjn)] at h2
              cases h2
            rw [getD_set_ne true hij] at h2
            have := (hL.mem i).2 ⟨h1, h2⟩
            simp only [List.mem_append, List.mem_cons] at this ⊢
            rcases this with h | h | h
            · exact .inl h
            · exact absurd h.symm hij
            · exact .inr h
        · by_cases hkj : j = k
          · subst hkj
            rw [hoj] at ho; cases ho
            exact getD_set_true (hall e he hb)
          · rw [getD_set_ne true hkj] at hk
            exact getD_set_true (hL.closed k o ho hk e he hb)
      have hlen' : (L1 ++ L2).length ≤ fuel := by simp at hlen ⊢; omega
      -- what is to be shown of the operation
      suffices hs : ∃ K' : St → Prop, aopG (stdA P) ops oj σ K' ∧ ∀ σ', K' σ' → aopsAt (stdA P) ops (L1 ++ L2) σ' K ∧ (Ord ops (L1 ++ L2) ∨ Frs ops (L1 ++ L2) σ') by
        obtain ⟨K', hK', himp⟩ := hs
        have := aopG_ok (Q := Q) hT hg hK' (N := wpAny P .any ops Q fuel (listed.setIfInBounds j true)) (fun a w ⟨M', σ', hg', h'⟩ =>
          draw_main hT hdr hQ fuel _ (L1 ++ L2) hg' hLeft hlen' (himp σ' h').2 (himp σ' h').1)
        unfold wpOp
        simp only [hoj]
        split
        · rename_i hw; rw [if_pos hw] at this; exact .inl this
        · rename_i hw; rw [if_neg hw] at this; exact this
      have first : L1 = [] → aopG (stdA P) ops oj σ (fun σ' => aopsAt (stdA P) ops (L1 ++ L2) σ' K) := by
        rintro rfl
        simp only [List.nil_append, aopsAt, aopAt, hoj] at h
        exact h
      by_cases hO : Ord ops (L1 ++ j :: L2)
      · have h1 : L1 = [] := by
          cases L1 with
          | nil => rfl
          | cons i L1 => exact absurd (hO i (by simp) j (by simp) (p3 i (by simp) j (by simp))) (hL1 i (by simp))
        refine ⟨_, first h1, fun σ' h' => ⟨h', .inl fun i hi k hk => hO i ?_ k ?_⟩⟩
        · rcases List.mem_append.1 hi with h | h <;> simp [h]
        · rcases List.mem_append.1 hk with h | h <;> simp [h]
      · have hfr' := hfr.resolve_left hO
        by_cases hcj : calm oj = true
        · refine ⟨_, move_front hoj hcj L1 (fun i hi => ?_) hnd (fun i hi k hk hne oi ok hoi hok ci hm => ?_) hfr' h, fun σ' h' => ⟨h'.1, .inr h'.2⟩⟩
          · have hlt := p3 i hi j (by simp)
            have hi' : i < ops.size := by omega
            obtain ⟨h1, h2⟩ := ((drawOk_spec hdr hoj).2 i ops[i] hlt (Array.getElem?_eq_getElem hi')).1.resolve_left (hL1 i hi)
            exact ⟨ops[i], Array.getElem?_eq_getElem hi', h1 i _ (by omega) (Array.getElem?_eq_getElem hi'), h2⟩
          · rcases Nat.lt_or_gt_of_ne hne with hlt | hgt
            · rcases ((drawOk_spec hdr hok).2 i oi hlt hoi).2 with h | ⟨h, _⟩
              · exact h
              · rw [h ci] at hm; cases hm
            · rcases ((drawOk_spec hdr hoi).2 k ok hgt hok).2 with h | ⟨_, h⟩
              · exact fun e => h e.symm
              · rw [h ci] at hm; cases hm
        · have h1 : L1 = [] := by
            cases L1 with
            | nil => rfl
            | cons i L1 =>
              exfalso
              have hlt := p3 i (by simp) j (by simp)
              have hi' : i < ops.size := by omega
              obtain ⟨h1, h2⟩ := ((drawOk_spec hdr hoj).2 i ops[i] hlt (Array.getElem?_eq_getElem hi')).1.resolve_left (hL1 i (by simp))
              exact hcj (h1 j oj (Nat.le_refl _) hoj)
          refine ⟨_, first h1, fun σ' h' => ⟨h', .inl fun i hi k hk hlt => ?_⟩⟩
          subst h1
          simp only [List.nil_append] at hi hk
          have hki : k < ops.size := ((hL.mem k).1 (by simp [hk])).1
          have hii : i < ops.size := by omega
          rcases ((drawOk_spec hdr (Array.getElem?_eq_getElem hki)).2 i ops[i] hlt (Array.getElem?_eq_getElem hii)).1 with h2 | ⟨h2, _⟩
          · exact h2
          · exact absurd (h2 j oj (by have := p4 k hk; omega) hoj) hcj

theorem nr1_ret_keep {A : Ar} {σ : St} {id d : Nat} (hid : Fr σ id) (s : Slot) (h : nr1 id s) : nr1 id (ret1 A σ d s) := by
  cases s with
  | pv r bs => exact fun hm => h (mem_dropB.1 hm).1
  | own j sub =>
    simp only [ret1]
    split
    · split
      · rename_i es sz u io hf
        have hu := hid.files _ _ hf
        cases sub with
        | none => exact fun hm => hu (mem_dropB.1 hm).1
        | some p => exact fun hm => hu (mem_dropB.1 hm).1
      · exact trivial
    · exact h
  | ref j o => simp only [ret1]; split <;> first | exact trivial | exact h
  | rref j i o => simp only [ret1]; split <;> first | exact trivial | exact h
  | lf j i o yl => simp only [ret1]; split <;> first | exact trivial | exact h
  | _ => exact h

theorem fr_retire {A : Ar} {σ : St} {id d : Nat} (h : Fr σ id) : Fr (retire A σ d) id := by
  have k2 : ∀ s, nr2 id s → (∀ ls, s ≠ .tup ls) → nr2 id (map2 (ret1 A σ d) s) ∧ ∀ ls, map2 (ret1 A σ d) s ≠ .tup ls := by
    intro s hs ht
    have leaf : ∀ s, (∀ ls, s ≠ .ag ls) → (∀ f ls, s ≠ .clo f ls) → (∀ ls, s ≠ .tup ls) → nr1 id s → nr2 id (ret1 A σ d s) ∧ ∀ ls, ret1 A σ d s ≠ .tup ls := fun s h1 h2 h3 h4 =>
      ⟨nr2_of1 (ret1_leaf s h1 h2 h3).1 (ret1_leaf s h1 h2 h3).2.1 (nr1_ret_keep h s h4), (ret1_leaf s h1 h2 h3).2.2⟩
    cases s with
    | ag ls => exact ⟨by intro t ht; obtain ⟨u, hu, rfl⟩ := List.mem_map.1 ht; exact nr1_ret_keep h u (hs u hu), by intro ls e; cases e⟩
    | clo f ls => exact ⟨by intro t ht; obtain ⟨u, hu, rfl⟩ := List.mem_map.1 ht; exact nr1_ret_keep h u (hs u hu), by intro ls e; cases e⟩
    | tup ls => exact absurd rfl (ht ls)
    | pv r bs => exact leaf (.pv r bs) (by simp) (by simp) (by simp) hs
    | own j sub => exact leaf (.own j sub) (by simp) (by simp) (by simp) hs
    | ref j o => exact leaf (.ref j o) (by simp) (by simp) (by simp) hs
    | rref j i o => exact leaf (.rref j i o) (by simp) (by simp) (by simp) hs
    | lf j i o yl => exact leaf (.lf j i o yl) (by simp) (by simp) (by simp) hs
    | undef => exact leaf .undef (by simp) (by simp) (by simp) trivial
    | dead => exact leaf .dead (by simp) (by simp) (by simp) trivial
  have kt : ∀ s, nr2 id s → nr2 id (map2 (ret1 A σ d) s) := by
    intro s hs
    cases s with
    | tup ls => exact trivial
    | ag ls => exact (k2 (.ag ls) hs (by simp)).1
    | clo f ls => exact (k2 (.clo f ls) hs (by simp)).1
    | pv r bs => exact (k2 (.pv r bs) hs (by simp)).1
    | own j sub => exact (k2 (.own j sub) hs (by simp)).1
    | ref j o => exact (k2 (.ref j o) hs (by simp)).1
    | rref j i o => exact (k2 (.rref j i o) hs (by simp)).1
    | lf j i o yl => exact (k2 (.lf j i o yl) hs (by simp)).1
    | undef => exact trivial
    | dead => exact trivial
  refine ⟨fun k => ?_, fun j f hf => ?_, ?_⟩
  · have hs := h.slots k
    show nrS id (mapS (ret1 A σ d) (σ.slots k))
    cases hk : σ.slots k with
    | tup ls => rw [hk] at hs; intro t ht; obtain ⟨u, hu, rfl⟩ := List.mem_map.1 ht; exact kt u (hs u hu)
    | ag ls => rw [hk] at hs; exact nrS_of2 (k2 (.ag ls) hs (by simp)).2 (k2 (.ag ls) hs (by simp)).1
    | clo f ls => rw [hk] at hs; exact nrS_of2 (k2 (.clo f ls) hs (by simp)).2 (k2 (.clo f ls) hs (by simp)).1
    | pv r bs => rw [hk] at hs; exact nrS_of2 (k2 (.pv r bs) hs (by simp)).2 (k2 (.pv r bs) hs (by simp)).1
    | own j sub => rw [hk] at hs; exact nrS_of2 (k2 (.own j sub) hs (by simp)).2 (k2 (.own j sub) hs (by simp)).1
    | ref j o => rw [hk] at hs; exact nrS_of2 (k2 (.ref j o) hs (by simp)).2 (k2 (.ref j o) hs (by simp)).1
    | rref j i o => rw [hk] at hs; exact nrS_of2 (k2 (.rref j i o) hs (by simp)).2 (k2 (.rref j i o) hs (by simp)).1
    | lf j i o yl => rw [hk] at hs; exact nrS_of2 (k2 (.lf j i o yl) hs (by simp)).2 (k2 (.lf j i o yl) hs (by simp)).1
    | undef => exact trivial
    | dead => exact trivial
  · obtain ⟨_, f0, h1, rfl⟩ := retire_files.1 hf
    have := h.files _ _ h1
    cases f0 with
    | cell ls => intro t ht; obtain ⟨u, hu, rfl⟩ := List.mem_map.1 ht; exact kt u (this u hu)
    | row es sz u io =>
      cases u with
      | free => simp [retF, nrF2, rubs]
      | deep z0 zs => simp [retF, nrF2, rubs]
      | sh bs => exact fun hm => this (mem_dropB.1 hm).1
  · show (if cls id = d then none else _) = none
    split
    · rfl
    · rw [h.none]

theorem retireL_ok {A : Ar} (hA : A = stdA P) {X : Prop} {K : St → Prop} : ∀ {l : List Oper} {M : Mp} {σ : St} {a : Act} {w : World} (S : Oper → Prop), G E M σ a w → (∀ o, S o → FrC o σ) → retireL A l σ K →
    (∀ M' σ', G E M' σ' a w → (∀ o, S o ∨ (o ∈ l ∧ calm o = true) → FrC o σ') → K σ' → X) → X
  | [], M, σ, a, w, S, hg, hS, h, hX => hX M σ hg (fun o ho => hS o (ho.resolve_right (by simp))) h
  | o :: l, M, σ, a, w, S, hg, hS, h, hX => by
    simp only [retireL] at h
    split at h
    · rename_i d hm hd
      rw [Bool.and_eq_true] at hm
      unfold mkF at h
      split at h
      · rename_i hio
        obtain ⟨hge, hlt⟩ := okD_lt hio
        have hg' := hg.retire (A := A) (d := d) (fun _ _ _ => by rw [hA]; rfl) (by
          intro id q hq hcl
          have hs := E.small id q hq
          rw [hcl] at hs
          omega)
        refine retireL_ok hA (l := l) (fun o' => S o' ∨ o' = o) hg' (fun o' ho' => ?_) h (fun M2 σ2 g2 f2 k2 => hX M2 σ2 g2 (fun o' ho' => f2 o' ?_) k2)
        · rcases ho' with ho' | rfl
          · exact fun hm' d' hd' id hid => fr_retire (hS o' ho' hm' d' hd' id hid)
          · intro hm' d' hd' id hid
            rw [hd] at hd'; cases hd'
            exact retire_fr hid
        · rcases ho' with ho' | ⟨ho', hc⟩
          · exact .inl (.inl ho')
          · rcases List.mem_cons.1 ho' with rfl | ho'
            · exact .inl (.inr rfl)
            · exact .inr ⟨ho', hc⟩
      · exact h.elim
    · rename_i hno
      refine retireL_ok hA (l := l) S hg hS h (fun M2 σ2 g2 f2 k2 => hX M2 σ2 g2 (fun o' ho' => ?_) k2)
      rcases ho' with ho' | ⟨ho', hc⟩
      · exact f2 o' (.inl ho')
      · rcases List.mem_cons.1 ho' with rfl | ho'
        · intro hm d hd
          exact absurd hd (by
            intro hd
            exact hno d (by rw [hc, hm]; rfl) hd)
        · exact f2 o' (.inr ⟨ho', hc⟩)

/-- A region in whatever order. -/
theorem draw_ok (hT : TTok P) (hm : P.follows .mixedOrders = true) {M : Mp} {σ : St} {a : Act} {w : World} {K : St → Prop} {Q : Exit → Act → World → Prop} (hg : G E M σ a w) {id : Nat} {ops : Array Oper} (hdr : drawOk ops = true)
    (h : retireL (stdA P) ops.toList σ (fun σ => aops (stdA P) ops ops.toList σ K)) (hQ : ∀ a w, Nx E K a w → Q .normal a w) : (Code.region id ops true).wp P Q a w := by
  refine retireL_ok rfl (fun _ => False) hg (fun _ h => h.elim) h (fun M' σ' g' f' h' => ?_)
  refine wp_region_any hm (draw_main hT hdr hQ _ _ (List.range' 0 ops.toList.length) (g'.world (w' := { w with drawn := w.drawn + 1 }) rfl rfl ⟨rfl, Nat.le_succ _⟩ rfl) ⟨by simp, List.pairwise_lt_range', fun i => ?_, fun k o ho hk => ?_⟩ (by simp) (.inr fun i hi o ho hc => f' o (.inr ⟨?_, hc⟩)) ?_)
  · simp only [List.mem_range', Array.length_toList]
    constructor
    · rintro ⟨k, hk, rfl⟩
      exact ⟨by omega, by simp [hk]⟩
    · rintro ⟨h1, _⟩
      exact ⟨i, h1, by omega⟩
  · rw [Array.getD_eq_getD_getElem?, Array.getElem?_replicate] at hk
    have hlt := (Array.getElem?_eq_some_iff.1 ho).1
    rw [if_pos hlt] at hk; cases hk
  · exact Array.mem_toList_iff.2 (Array.mem_of_getElem? ho)
  · have := aops_at (A := stdA P) (K := K) (ops := ops) ops.toList [] (σ := σ') (by simp)
    rw [this] at h'
    exact h'

/-! ### A region of which every order is gone through -/

theorem allOf_mem {α : Type} {f : α → Prop} : ∀ {l : List α}, allOf f l → ∀ x ∈ l, f x
  | [], _, x, hx => by simp at hx
  | [y], h, x, hx => by
    simp only [List.mem_singleton] at hx
    subst hx; exact h
  | y :: z :: l, h, x, hx => by
    rcases List.mem_cons.1 hx with rfl | hx
    · exact h.1
    · exact allOf_mem (l := z :: l) h.2 x hx

structure Done (ops : Array Oper) (listed : Array Bool) (done : List Nat) : Prop where
  size : listed.size = ops.size
  same : ∀ i, i < ops.size → listed.getD i true = done.elem i

theorem ready_done {listed : Array Bool} {done : List Nat} (h : Done ops listed done) {j : Nat} (hj : j ∈ Region.ready .any ops listed) : j ∈ readyL ops.toList done ∧ j < ops.size := by
  obtain ⟨h0, o, ho, hall⟩ := mem_ready.1 hj
  have hjn := (Array.getElem?_eq_some_iff.1 ho).1
  refine ⟨?_, hjn⟩
  unfold readyL
  rw [List.mem_map]
  refine ⟨(o, j), ?_, rfl⟩
  rw [List.mem_filter, List.mem_zipIdx_iff_getElem?]
  refine ⟨by simpa using ho, ?_⟩
  rw [h.same j hjn] at h0
  simp only [h0, Bool.not_false, Bool.true_and, List.all_eq_true, Bool.or_eq_true, Bool.not_eq_true']
  intro e he
  cases hb : Region.binds .any e with
  | false => exact .inl rfl
  | true =>
    right
    have h1 := hall e (by simpa using he) hb
    have hlt' : e.on < listed.size := by
      rcases Nat.lt_or_ge e.on listed.size with h' | h'
      · exact h'
      · simp [Array.getElem?_eq_none h'] at h1
    rw [getD_tf hlt' false true, h.same e.on (by rw [← h.size]; exact hlt')] at h1
    exact h1

theorem done_ready {listed : Array Bool} {done : List Nat} (h : Done ops listed done) (hr : Region.ready .any ops listed = []) (hlt : ∀ i ∈ done, i < ops.size) : readyL ops.toList done = [] := by
  rw [List.eq_nil_iff_forall_not_mem]
  intro j hj
  unfold readyL at hj
  rw [List.mem_map] at hj
  obtain ⟨⟨o, i⟩, hm, rfl⟩ := hj
  rw [List.mem_filter, List.mem_zipIdx_iff_getElem?] at hm
  obtain ⟨ho, hc⟩ := hm
  have ho' : ops[i]? = some o := by simpa using ho
  have hin := (Array.getElem?_eq_some_iff.1 ho').1
  simp only [Bool.and_eq_true, Bool.not_eq_true', List.all_eq_true, Bool.or_eq_true] at hc
  have : i ∈ Region.ready .any ops listed := by
    refine mem_ready.2 ⟨by rw [h.same i hin]; exact hc.1, o, ho', fun e he hb => ?_⟩
    rcases hc.2 e (by simpa using he) with h1 | h1
    · rw [hb] at h1; cases h1
    · have hl := hlt e.on (by simpa using h1)
      rw [getD_tf (by rw [h.size]; exact hl) false true, h.same e.on hl]
      exact h1
  rw [hr] at this; simp at this

theorem aanyL_ok (hT : TTok P) {Q : Exit → Act → World → Prop} {K : St → Prop} (hQ : ∀ a w, Nx E K a w → Q .normal a w) : ∀ (fuel : Nat) (listed : Array Bool) (done : List Nat) {M : Mp} {σ : St} {a : Act} {w : World}, G E M σ a w →
    Done ops listed done → (∀ i ∈ done, i < ops.size) → aanyL (stdA P) ops fuel done σ K → wpAny P .any ops Q fuel listed a w
  | 0, listed, done, M, σ, a, w, hg, hd, hlt, h => by
    simp only [aanyL] at h
    split at h
    · rename_i hr
      refine ⟨?_, hQ _ _ ⟨M, σ, hg, h⟩⟩
      rw [List.eq_nil_iff_forall_not_mem]
      intro j hj
      have := (ready_done hd hj).1
      rw [hr] at this; simp at this
    · exact h.elim
  | fuel + 1, listed, done, M, σ, a, w, hg, hd, hlt, h => by
    simp only [aanyL] at h
    refine ⟨fun hr => ?_, fun j hj => ?_⟩
    · rw [done_ready hd hr hlt] at h
      exact hQ _ _ ⟨M, σ, hg, h⟩
    · obtain ⟨hjr, hjn⟩ := ready_done hd hj
      split at h
      · rename_i hr; rw [hr] at hjr; simp at hjr
      · have hj' := allOf_mem h j hjr
        unfold wpOp
        have ho : ops[j]? = some ops[j] := Array.getElem?_eq_getElem hjn
        have ho' : ops.toList[j]? = some ops[j] := by simp
        simp only [ho']  at hj'
        simp only [ho]
        have hd' : Done ops (listed.setIfInBounds j true) (j :: done) := by
          refine ⟨by simp [hd.size], fun i hi => ?_⟩
          by_cases hij : j = i
          · subst hij
            rw [Array.getD_eq_getD_getElem?, Array.getElem?_setIfInBounds_self_of_lt (by rw [hd.size]; exact hi)]
            simp
          · rw [getD_set_ne true hij, hd.same i hi]
            simp [Ne.symm hij]
        have := aopG_ok (Q := Q) hT hg hj' (N := wpAny P .any ops Q fuel (listed.setIfInBounds j true)) (fun a w ⟨M', σ', hg', h'⟩ =>
          aanyL_ok hT hQ fuel _ (j :: done) hg' hd' (fun i hi => by rcases List.mem_cons.1 hi with rfl | hi; exact hjn; exact hlt i hi) h')
        split
        · rename_i hw; rw [if_pos hw] at this; exact .inl this
        · rename_i hw; rw [if_neg hw] at this; exact this

theorem drawL_ok (hT : TTok P) (hm : P.follows .mixedOrders = true) {M : Mp} {σ : St} {a : Act} {w : World} {K : St → Prop} {Q : Exit → Act → World → Prop} (hg : G E M σ a w) {id : Nat} {ops : Array Oper}
    (h : aanyL (stdA P) ops ops.toList.length [] σ K) (hQ : ∀ a w, Nx E K a w → Q .normal a w) : (Code.region id ops true).wp P Q a w := by
  refine wp_region_any hm ?_
  have := aanyL_ok hT hQ ops.toList.length (Array.replicate ops.size false) [] (hg.world (w' := { w with drawn := w.drawn + 1 }) rfl rfl ⟨rfl, Nat.le_succ _⟩ rfl) ⟨by simp, fun i hi => by simp [hi]⟩ (by simp) h
  simpa using this

/-! ### A region of which some calm operations are taken ahead -/

def PP (ops : Array Oper) (i j : Nat) : Prop := ∀ oi oj, ops[i]? = some oi → ops[j]? = some oj → ((Region.before ops).getD j 0).testBit i = true ∨ (calm oj = true ∧ oi.apart ops oj = true)

structure Pre (ops : Array Oper) (pre : List Nat) : Prop where
  edge : ∀ j o, ops[j]? = some o → ∀ e ∈ o.after, Region.binds .any e = true → e.on < j
  dst : ∀ (i j : Nat) (oi oj : Oper), i ≠ j → ops[i]? = some oi → ops[j]? = some oj → calm oi = true → makes oi = true → oi.dst ≠ oj.dst
  nodup : pre.Nodup
  calm : ∀ i ∈ pre, ∃ o, ops[i]? = some o ∧ VAI.calm o = true
  inn : pre.Pairwise (PP ops)
  out : ∀ i ∈ pre, ∀ j, j < ops.size → j ∉ pre → PP ops i j

theorem nodupB_spec : ∀ {l : List Nat}, preOk.nodupB l = true → l.Nodup
  | [], _ => List.nodup_nil
  | i :: l, h => by
    simp only [preOk.nodupB, Bool.and_eq_true, Bool.not_eq_true'] at h
    exact List.nodup_cons.2 ⟨fun hm => by have := h.1; simp [hm] at this, nodupB_spec h.2⟩

theorem pairsOk_spec {p : Nat → Nat → Bool} {r : List Nat} : ∀ {l : List Nat}, preOk.pairsOk p l r = true → l.Pairwise (fun i j => p i j = true) ∧ ∀ i ∈ l, ∀ j ∈ r, p i j = true
  | [], _ => ⟨List.Pairwise.nil, by simp⟩
  | i :: l, h => by
    simp only [preOk.pairsOk, Bool.and_eq_true, List.all_eq_true] at h
    obtain ⟨⟨h1, h2⟩, h3⟩ := h
    obtain ⟨h4, h5⟩ := pairsOk_spec h3
    refine ⟨List.pairwise_cons.2 ⟨h1, h4⟩, fun k hk j hj => ?_⟩
    rcases List.mem_cons.1 hk with rfl | hk
    · exact h2 j hj
    · exact h5 k hk j hj

theorem pp_of {i j : Nat} (h : (match ops[i]?, ops[j]? with
    | some oi, some oj => ((Region.before ops).getD j 0).testBit i || (calm oj && oi.apart ops oj)
    | _, _ => false) = true) : PP ops i j := by
  intro oi oj hi hj
  rw [hi, hj] at h
  simpa only [Bool.or_eq_true, Bool.and_eq_true] using h

theorem preOk_spec {pre : List Nat} (h : preOk ops pre = true) : Pre ops pre := by
  unfold preOk at h
  simp only [Bool.and_eq_true] at h
  obtain ⟨⟨⟨h1, h2⟩, h3⟩, h4⟩ := h
  obtain ⟨h5, h6⟩ := pairsOk_spec h4
  have g1 : ∀ j o, ops[j]? = some o → _ := fun j o ho => by
    have := List.all_eq_true.1 h1 j (List.mem_range.2 (Array.getElem?_eq_some_iff.1 ho).1)
    rw [ho] at this
    simp only [Bool.and_eq_true] at this
    exact this
  refine ⟨fun j o ho e he hb => ?_, fun i j oi oj hne hi hj ci hm => ?_, nodupB_spec h3.1, fun i hi => ?_, h5.imp pp_of, fun i hi j hj hjp => pp_of (h6 i hi j ?_)⟩
  · have := List.all_eq_true.1 (g1 j o ho).1 e (by simpa using he)
    simpa [hb, Nat.blt_eq] using this
  · have := List.all_eq_true.1 (g1 j oj hj).2 i (List.mem_range.2 (Array.getElem?_eq_some_iff.1 hi).1)
    rw [hi] at this
    simp only [ci, hm, Bool.and_true, Bool.not_true, Bool.false_or, Bool.or_eq_true, beq_iff_eq, bne_iff_ne] at this
    exact this.resolve_left hne
  · have := List.all_eq_true.1 h2 i hi
    split at this
    · rename_i o ho; exact ⟨o, ho, this⟩
    · cases this
  · rw [List.mem_filter]
    exact ⟨List.mem_range.2 hj, by simpa using hjp⟩

theorem all_listed {pre : List Nat} (hp : Pre ops pre) {listed : Array Bool} (hsz : listed.size = ops.size) (hr : Region.ready .any ops listed = []) : ∀ (j : Nat), j < ops.size → listed.getD j true = true := by
  intro j
  induction j using Nat.strongRecOn with
  | ind j ih =>
    intro hj
    cases hq : listed.getD j true with
    | true => rfl
    | false =>
      have : j ∈ Region.ready .any ops listed := mem_ready.2 ⟨hq, ops[j], Array.getElem?_eq_getElem hj, fun e he hb => by
        have hlt := hp.edge j ops[j] (Array.getElem?_eq_getElem hj) e he hb
        rw [getD_tf (by rw [hsz]; omega) false true]
        exact ih e.on hlt (by omega)⟩
      rw [hr] at this; simp at this

theorem aopsAt_imp {K K' : St → Prop} (hK : ∀ σ', K σ' → K' σ') : ∀ (L : List Nat) {σ : St}, (∀ i ∈ L, ∃ oi, ops[i]? = some oi ∧ calm oi = true) → L.Nodup →
    (∀ (i j : Nat) (oi oj : Oper), i ≠ j → ops[i]? = some oi → ops[j]? = some oj → calm oi = true → makes oi = true → oi.dst ≠ oj.dst) → Frs ops L σ → aopsAt (stdA P) ops L σ K → aopsAt (stdA P) ops L σ K'
  | [], _, _, _, _, _, h => hK _ h
  | i :: L, σ, hc, hnd, hdst, hfr, h => by
    obtain ⟨oi, hoi, ci⟩ := hc i (by simp)
    obtain ⟨hn1, hn2⟩ := List.nodup_cons.1 hnd
    simp only [aopsAt, aopAt, hoi] at h ⊢
    have hfi := hfr i (by simp) oi hoi ci
    refine calm_imp ci hfi (fun σ' h' => aopsAt_imp hK L (fun k hk => hc k (by simp [hk])) hn2 hdst h'.2 h'.1)
      (calm_frs (L := L) ci hfi (fun k hk => hfr k (by simp [hk])) (fun k hk ok hok ck hm => hdst k i ok oi (by rintro rfl; exact hn1 hk) hok hoi ck hm) h)

theorem aopsAt_false : ∀ (L : List Nat) {σ : St}, (∀ i ∈ L, ∃ oi, ops[i]? = some oi ∧ calm oi = true) → L.Nodup →
    (∀ (i j : Nat) (oi oj : Oper), i ≠ j → ops[i]? = some oi → ops[j]? = some oj → calm oi = true → makes oi = true → oi.dst ≠ oj.dst) → Frs ops L σ → aopsAt (stdA P) ops L σ (fun _ => False) → False
  | [], _, _, _, _, _, h => h
  | i :: L, σ, hc, hnd, hdst, hfr, h => by
    obtain ⟨oi, hoi, ci⟩ := hc i (by simp)
    obtain ⟨hn1, hn2⟩ := List.nodup_cons.1 hnd
    simp only [aopsAt, aopAt, hoi] at h
    have hfi := hfr i (by simp) oi hoi ci
    have h2 := calm_imp (K' := fun _ => False) ci hfi (fun σ' h' => aopsAt_false L (fun k hk => hc k (by simp [hk])) hn2 hdst h'.2 h'.1)
      (calm_frs (L := L) ci hfi (fun k hk => hfr k (by simp [hk])) (fun k hk ok hok ck hm => hdst k i ok oi (by rintro rfl; exact hn1 hk) hok hoi ck hm) h)
    obtain ⟨d, hdst'⟩ := calm_dst ci
    obtain ⟨_, _, h3, _⟩ := calm_out ci hdst' hfi h2
    exact h3

theorem aopsAt_app {K : St → Prop} {j : Nat} : ∀ (L : List Nat) {σ : St}, aopsAt (stdA P) ops (L ++ [j]) σ K = aopsAt (stdA P) ops L σ (fun σ' => aopAt (stdA P) ops j σ' K)
  | [], _ => rfl
  | i :: L, σ => by
    simp only [List.cons_append, aopsAt]
    congr 1
    funext σ'
    exact aopsAt_app L

structure Inv (ops : Array Oper) (pre : List Nat) (listed : Array Bool) (L D : List Nat) : Prop where
  size : listed.size = ops.size
  sub : L.Sublist pre
  un : ∀ i ∈ L, listed.getD i true = false
  lt : ∀ i ∈ D, i < ops.size
  preD : ∀ i ∈ pre, i ∈ D
  same : ∀ i, i < ops.size → i ∉ L → listed.getD i true = D.elem i
  closed : Closed ops listed

def Unl (ops : Array Oper) (listed : Array Bool) : List Nat := (List.range ops.size).filter fun i => !listed.getD i true

theorem mem_unl {listed : Array Bool} {i : Nat} : i ∈ Unl ops listed ↔ i < ops.size ∧ listed.getD i true = false := by
  simp [Unl, List.mem_filter]

theorem pre_main (hT : TTok P) {pre : List Nat} (hp : Pre ops pre) {Q : Exit → Act → World → Prop} {K : St → Prop} (hQ : ∀ a w, Nx E K a w → Q .normal a w) : ∀ (fuel : Nat) (listed : Array Bool) (L D : List Nat) (m : Nat) {M : Mp} {σ : St} {a : Act} {w : World}, G E M σ a w →
    fuel = L.length + m → Inv ops pre listed L D → Frs ops (Unl ops listed) σ → aopsAt (stdA P) ops L σ (fun σ' => aanyL (stdA P) ops m D σ' K) → wpAny P .any ops Q fuel listed a w := by
  intro fuel
  induction fuel with
  | zero =>
    intro listed L D m M σ a w hg hf hI hfr h
    have : L = [] := List.eq_nil_of_length_eq_zero (by omega)
    subst this
    have : m = 0 := by simp at hf; omega
    subst this
    exact aanyL_ok hT hQ 0 listed D hg ⟨hI.size, fun i hi => hI.same i hi (by simp)⟩ hI.lt h
  | succ fuel ih =>
    intro listed L D m M σ a w hg hf hI hfr h
    cases hL : L with
    | nil =>
      subst hL
      simp only [List.length_nil, Nat.zero_add] at hf
      subst hf
      exact aanyL_ok hT hQ _ listed D hg ⟨hI.size, fun i hi => hI.same i hi (by simp)⟩ hI.lt h
    | cons i0 L' =>
      have hi0 : i0 ∈ L := by rw [hL]; simp
      rw [hL] at hi0
      rw [← hL] at hi0
      refine ⟨fun hr => ?_, fun j hj => ?_⟩
      · exfalso
        obtain ⟨o, ho, _⟩ := hp.calm i0 (hI.sub.subset hi0)
        have := all_listed hp hI.size hr i0 (Array.getElem?_eq_some_iff.1 ho).1
        rw [hI.un i0 hi0] at this; cases this
      · obtain ⟨hun, oj, hoj, hall⟩ := mem_ready.1 hj
        have hjn := (Array.getElem?_eq_some_iff.1 hoj).1
        have noB : ∀ i ∈ L, ((Region.before ops).getD j 0).testBit i ≠ true := by
          intro i hi hb
          have h1 := before_listed hI.size hI.closed j oj hoj hall i hb
          obtain ⟨o, ho, _⟩ := hp.calm i (hI.sub.subset hi)
          rw [getD_tf (by rw [hI.size]; exact (Array.getElem?_eq_some_iff.1 ho).1) false true, hI.un i hi] at h1
          cases h1
        have hcl : Closed ops (listed.setIfInBounds j true) := by
          intro k o ho hk e he hb
          by_cases hkj : j = k
          · subst hkj
            rw [hoj] at ho; cases ho
            exact getD_set_true (hall e he hb)
          · rw [getD_set_ne true hkj] at hk
            exact getD_set_true (hI.closed k o ho hk e he hb)
        have hset : (listed.setIfInBounds j true).getD j true = true := by
          rw [Array.getD_eq_getD_getElem?, Array.getElem?_setIfInBounds_self_of_lt (by rw [hI.size]; exact hjn)]; rfl
        have hcalmL : ∀ i ∈ L, ∃ oi, ops[i]? = some oi ∧ calm oi = true := fun i hi => hp.calm i (hI.sub.subset hi)
        have hndL : L.Nodup := hI.sub.nodup hp.nodup
        have hunL : ∀ i ∈ L, i ∈ Unl ops listed := fun i hi => by
          obtain ⟨o, ho, _⟩ := hcalmL i hi
          exact mem_unl.2 ⟨(Array.getElem?_eq_some_iff.1 ho).1, hI.un i hi⟩
        have hunj : j ∈ Unl ops listed := mem_unl.2 ⟨hjn, hun⟩
        -- what is left after j
        suffices hs : calm oj = true ∧ ∃ L' D' m', fuel = L'.length + m' ∧ Inv ops pre (listed.setIfInBounds j true) L' D' ∧ aopG (stdA P) ops oj σ (fun σ' => aopsAt (stdA P) ops L' σ' (fun σ' => aanyL (stdA P) ops m' D' σ' K)) by
          obtain ⟨cj, L', D', m', hf', hI', h'⟩ := hs
          have h2 := calm_frs (L := Unl ops (listed.setIfInBounds j true)) cj (hfr j hunj oj hoj cj) (fun i hi => hfr i (by
            obtain ⟨h1, h2⟩ := mem_unl.1 hi
            refine mem_unl.2 ⟨h1, ?_⟩
            by_cases hij : j = i
            · subst hij; rw [hset] at h2; cases h2
            · rwa [getD_set_ne true hij] at h2)) (fun i hi oi hoi ci hm => hp.dst i j oi oj (by
            rintro rfl
            have := (mem_unl.1 hi).2
            rw [hset] at this; cases this) hoi hoj ci hm) h'
          unfold wpOp
          simp only [hoj]
          have := aopG_ok (Q := Q) hT hg h2 (N := wpAny P .any ops Q fuel (listed.setIfInBounds j true)) (fun a w ⟨M', σ', hg', h'⟩ => ih _ L' D' m' hg' hf' hI' h'.2 h'.1)
          split
          · rename_i hw; rw [if_pos hw] at this; exact .inl this
          · rename_i hw; rw [if_neg hw] at this; exact this
        by_cases hjL : j ∈ L
        · obtain ⟨L1, L2, rfl⟩ := List.append_of_mem hjL
          obtain ⟨oj', hoj', cj⟩ := hcalmL j hjL
          rw [hoj] at hoj'; cases hoj'
          have hpw := List.pairwise_append.1 (hp.inn.sublist hI.sub)
          have hnd1 := List.nodup_append.1 hndL
          have hnd2 := List.nodup_cons.1 hnd1.2.1
          have hjn' : j ∉ L1 ++ L2 := by
            intro hm
            rcases List.mem_append.1 hm with hm | hm
            · exact hnd1.2.2 j hm j (by simp) rfl
            · exact hnd2.1 hm
          refine ⟨cj, L1 ++ L2, D, m, by simp at hf ⊢; omega, ⟨by simp [hI.size], .trans (by simp) hI.sub, fun i hi => ?_, hI.lt, hI.preD, fun i hi hiL => ?_, hcl⟩, ?_⟩
          · rw [getD_set_ne true (by rintro rfl; exact hjn' hi)]
            exact hI.un i (by rcases List.mem_append.1 hi with h | h <;> simp [h])
          · by_cases hij : j = i
            · subst hij
              rw [hset]
              have := hI.preD j (hI.sub.subset hjL)
              simp [this]
            · rw [getD_set_ne true hij]
              refine hI.same i hi (fun hm => hiL ?_)
              rcases List.mem_append.1 hm with hm | hm
              · simp [hm]
              · rcases List.mem_cons.1 hm with hm | hm
                · exact absurd hm.symm hij
                · simp [hm]
          · refine calm_imp cj (hfr j hunj oj hoj cj) (fun σ' h' => h'.1) (move_front hoj cj L1 (fun i hi => ?_) hndL (fun i _ k _ hne oi ok hoi hok ci hm => hp.dst i k oi ok hne hoi hok ci hm) (fun i hi => hfr i (hunL i hi)) h)
            obtain ⟨oi, hoi, ci⟩ := hcalmL i (by simp [hi])
            exact ⟨oi, hoi, ci, ((hpw.2.2 i hi j (by simp) oi oj hoi hoj).resolve_left (noB i (by simp [hi]))).2⟩
        · have hjD : D.elem j = false := by rw [← hI.same j hjn hjL]; exact hun
          have hjp : j ∉ pre := fun hm => by
            have := hI.preD j hm
            simp [this] at hjD
          have hout : ∀ i ∈ L, ∃ oi, ops[i]? = some oi ∧ calm oi = true ∧ calm oj = true ∧ oi.apart ops oj = true := fun i hi => by
            obtain ⟨oi, hoi, ci⟩ := hcalmL i hi
            obtain ⟨c1, c2⟩ := (hp.out i (hI.sub.subset hi) j hjn hjp oi oj hoi hoj).resolve_left (noB i hi)
            exact ⟨oi, hoi, ci, c1, c2⟩
          have cj : calm oj = true := by obtain ⟨_, _, _, c, _⟩ := hout i0 hi0; exact c
          have hjr : j ∈ readyL ops.toList D := by
            unfold readyL
            rw [List.mem_map]
            refine ⟨(oj, j), ?_, rfl⟩
            rw [List.mem_filter, List.mem_zipIdx_iff_getElem?]
            refine ⟨by simpa using hoj, ?_⟩
            simp only [hjD, Bool.not_false, Bool.true_and, List.all_eq_true, Bool.or_eq_true, Bool.not_eq_true']
            intro e he
            cases hb : Region.binds .any e with
            | false => exact .inl rfl
            | true =>
              right
              have h1 := hall e (by simpa using he) hb
              have hlt := hp.edge j oj hoj e (by simpa using he) hb
              have hlt' : e.on < ops.size := by omega
              rw [getD_tf (by rw [hI.size]; exact hlt') false true] at h1
              rw [← hI.same e.on hlt' (fun hm => by rw [hI.un e.on hm] at h1; cases h1)]
              exact h1
          have hne : readyL ops.toList D ≠ [] := fun e => by rw [e] at hjr; simp at hjr
          have hstep : ∀ σ', aanyL (stdA P) ops m D σ' K → ∃ m', m = m' + 1 ∧ aopAt (stdA P) ops j σ' (fun σ' => aanyL (stdA P) ops m' (j :: D) σ' K) := by
            intro σ' h'
            cases m with
            | zero =>
              unfold aanyL at h'
              split at h'
              · rename_i hr; exact absurd hr hne
              · exact h'.elim
            | succ m' =>
              unfold aanyL at h'
              split at h'
              · rename_i hr; exact absurd hr hne
              · have := allOf_mem h' j hjr
                have ho' : ops.toList[j]? = some oj := by simpa using hoj
                simp only [ho'] at this
                refine ⟨m', rfl, ?_⟩
                simp only [aopAt, hoj]
                exact this
          cases m with
          | zero =>
            exfalso
            exact aopsAt_false L hcalmL hndL hp.dst (fun i hi => hfr i (hunL i hi)) (aopsAt_imp (fun σ' h' => by obtain ⟨m', hm', _⟩ := hstep σ' h'; omega) L hcalmL hndL hp.dst (fun i hi => hfr i (hunL i hi)) h)
          | succ m' =>
            refine ⟨cj, L, j :: D, m', by omega, ⟨by simp [hI.size], hI.sub, fun i hi => ?_, fun i hi => ?_, fun i hi => by simp [hI.preD i hi], fun i hi hiL => ?_, hcl⟩, ?_⟩
            · rw [getD_set_ne true (by rintro rfl; exact hjL hi)]
              exact hI.un i hi
            · rcases List.mem_cons.1 hi with rfl | hi
              · exact hjn
              · exact hI.lt i hi
            · by_cases hij : j = i
              · subst hij
                rw [hset]; simp
              · rw [getD_set_ne true hij, hI.same i hi hiL]
                simp [Ne.symm hij]
            · have h1 := aopsAt_imp (K' := fun σ' => aopAt (stdA P) ops j σ' (fun σ' => aanyL (stdA P) ops m' (j :: D) σ' K)) (fun σ' h' => by
                obtain ⟨m2, hm2, h2⟩ := hstep σ' h'
                have : m' = m2 := by omega
                subst this
                exact h2) L hcalmL hndL hp.dst (fun i hi => hfr i (hunL i hi)) h
              rw [← aopsAt_app] at h1
              have h2 := move_front (L2 := []) hoj cj L (fun i hi => by obtain ⟨oi, hoi, ci, _, c⟩ := hout i hi; exact ⟨oi, hoi, ci, c⟩) (by
                rw [List.nodup_append]
                exact ⟨hndL, by simp, fun a ha b hb => by rw [List.mem_singleton] at hb; subst hb; rintro rfl; exact hjL ha⟩) (fun i _ k _ hne oi ok hoi hok ci hm => hp.dst i k oi ok hne hoi hok ci hm) (fun i hi => hfr i (by
                rcases List.mem_append.1 hi with hi | hi
                · exact hunL i hi
                · rw [List.mem_singleton] at hi; subst hi; exact hunj)) h1
              refine calm_imp cj (hfr j hunj oj hoj cj) (fun σ' h' => ?_) h2
              have := h'.1
              rwa [List.append_nil] at this

theorem aopsP_at {K : St → Prop} : ∀ (L : List Nat) {σ : St}, (∀ i ∈ L, i < ops.size) → aopsP (stdA P) ops L σ K = aopsAt (stdA P) ops L σ K
  | [], _, _ => rfl
  | i :: L, σ, hl => by
    have hi := hl i (by simp)
    have h1 : ops[i]? = some ops[i] := Array.getElem?_eq_getElem hi
    have h2 : ops.toList[i]? = some ops[i] := by simp
    simp only [aopsP, h2, aopsAt, aopAt, h1]
    congr 1
    funext σ'
    exact aopsP_at L (fun k hk => hl k (by simp [hk]))

theorem drawP_ok (hT : TTok P) (hm : P.follows .mixedOrders = true) {M : Mp} {σ : St} {a : Act} {w : World} {K : St → Prop} {Q : Exit → Act → World → Prop} (hg : G E M σ a w) {id : Nat} {ops : Array Oper} {pre : List Nat} (hd : preOk ops pre = true)
    (h : retireL (stdA P) ops.toList σ (fun σ => aopsP (stdA P) ops pre σ (fun σ => aanyL (stdA P) ops (ops.toList.length - pre.length) pre σ K))) (hQ : ∀ a w, Nx E K a w → Q .normal a w) : (Code.region id ops true).wp P Q a w := by
  have hp := preOk_spec hd
  have hlen : pre.length ≤ ops.size := by
    unfold preOk at hd
    simp only [Bool.and_eq_true] at hd
    exact Nat.le_of_ble_eq_true hd.1.2.2
  have hlt : ∀ i ∈ pre, i < ops.size := fun i hi => by
    obtain ⟨o, ho, _⟩ := hp.calm i hi
    exact (Array.getElem?_eq_some_iff.1 ho).1
  have hrep : ∀ i, i < ops.size → (Array.replicate ops.size false).getD i true = false := fun i hi => by simp [hi]
  refine retireL_ok rfl (fun _ => False) hg (fun _ h => h.elim) h (fun M' σ' g' f' h' => ?_)
  refine wp_region_any hm ?_
  rw [aopsP_at pre hlt] at h'
  have hI : Inv ops pre (Array.replicate ops.size false) pre pre := ⟨by simp, List.Sublist.refl _, fun i hi => hrep i (hlt i hi), hlt, fun _ h => h, fun i hi hip => by rw [hrep i hi]; simp [hip], fun k o ho hk => by
    rw [hrep k (Array.getElem?_eq_some_iff.1 ho).1] at hk; cases hk⟩
  refine pre_main hT hp hQ _ _ pre pre (ops.toList.length - pre.length) (g'.world (w' := { w with drawn := w.drawn + 1 }) rfl rfl ⟨rfl, Nat.le_succ _⟩ rfl) (by simp; omega) hI (fun i hi o ho hc => f' o (.inr ⟨Array.mem_toList_iff.2 (Array.mem_of_getElem? ho), hc⟩)) h'

end Go.VAI

namespace Go.VAI
variable {E : Env} {P : Program}

/-- What is asked behind a piece of code. -/
def QK (E : Env) (K : Ex → St → Prop) : Exit → Act → World → Prop
  | .normal, a, w => Nx E (K .normal) a w
  | .exit i, a, w => Nx E (K (.exit i)) a w
  | .ret, a, w => Nx E (K .ret) a w
  | _, _, _ => False

theorem rounds_mono {c : Code} {Q : Exit → Act → World → Prop} : ∀ {n m : Nat}, n ≤ m → ∀ {a : Act} {w : World}, Code.rounds P c Q n a w → Code.rounds P c Q m a w
  | 0, _, _, _, _, h => h.elim
  | n + 1, 0, hle, _, _, _ => by omega
  | n + 1, m + 1, hle, a, w, h => by
    rw [rounds_succ] at h ⊢
    exact Code.wp_mono (fun e a w q => by cases e <;> first | exact rounds_mono (by omega) q | exact q) h

theorem awp_ok {D : List (Nat × List Nat)} (hT : TTok P) (hm : P.follows .mixedOrders = true) : ∀ (c : Code) {M : Mp} {σ : St} {a : Act} {w : World} {K : Ex → St → Prop}, drawsOk D c = true → G E M σ a w → awp (stdA P) D c K σ → c.wp P (QK E K) a w
  | .skip, M, σ, a, w, K, hd, hg, h => wp_skip ⟨M, σ, hg, h⟩
  | .region id ops false, M, σ, a, w, K, hd, hg, h => wp_region_list (aops_ok (Q := QK E K) hT hg h (fun _ _ hh => hh))
  | .region id ops true, M, σ, a, w, K, hd, hg, h => by
    simp only [awp] at h
    simp only [drawsOk] at hd
    split at h
    · rename_i pre hp
      rw [hp] at hd
      exact drawP_ok hT hm hg hd h (fun _ _ hh => hh)
    · rename_i hp
      rw [hp] at hd
      exact draw_ok hT hm hg hd h (fun _ _ hh => hh)
  | .seq x y, M, σ, a, w, K, hd, hg, h => by
    simp only [drawsOk, Bool.and_eq_true] at hd
    refine wp_seq (Code.wp_mono ?_ (awp_ok hT hm x hd.1 hg h))
    intro e a w q
    cases e with
    | normal => obtain ⟨M', σ', hg', h'⟩ := q; exact awp_ok hT hm y hd.2 hg' h'
    | exit i => exact q
    | ret => exact q
    | goto l => exact q.elim
    | panic c => exact q.elim
    | outgrown => exact q.elim
  | .cond c x y, M, σ, a, w, K, hd, hg, h => by
    simp only [drawsOk, Bool.and_eq_true] at hd
    simp only [awp] at h
    split at h
    · rename_i t ht
      have hv := boolOf_val ht (eval_cl hg c)
      refine wp_cond hv ?_
      cases t with
      | true => exact awp_ok hT hm x hd.1 hg h
      | false => exact awp_ok hT hm y hd.2 hg h
    · exact h.elim
  | .block id c, M, σ, a, w, K, hd, hg, h => by
    refine wp_block (Code.wp_mono ?_ (awp_ok hT hm c hd hg h))
    intro e a w q
    cases e with
    | normal => exact q
    | exit i =>
      obtain ⟨M', σ', hg', h'⟩ := q
      simp only [Exit.inBlock]
      split
      · rename_i hi; simp only [hi, if_true] at h'; exact ⟨M', σ', hg', h'⟩
      · rename_i hi; simp only [hi, if_false] at h'; exact ⟨M', σ', hg', h'⟩
    | ret => exact q
    | goto l => exact q.elim
    | panic c => exact q.elim
    | outgrown => exact q.elim
  | .loop c, M, σ, a, w, K, hd, hg, h => by
    obtain ⟨I, n, h0, hstep⟩ := h
    have key : ∀ n a w, (∃ M σ m, m ≤ n ∧ G E M σ a w ∧ I m σ) → Code.rounds P c (QK E K) (n + 1) a w := by
      intro n
      induction n with
      | zero =>
        intro a w ⟨M, σ, m, hm', hg, hI⟩
        rw [rounds_succ]
        refine Code.wp_mono ?_ (awp_ok hT hm c hd hg (hstep m σ hI))
        intro e a w q
        cases e with
        | normal => obtain ⟨M', σ', hg', m', hlt, _⟩ := q; omega
        | exit i => exact q
        | ret => exact q
        | goto l => exact q.elim
        | panic c => exact q.elim
        | outgrown => exact q.elim
      | succ n ih =>
        intro a w ⟨M, σ, m, hm', hg, hI⟩
        rw [rounds_succ]
        refine Code.wp_mono ?_ (awp_ok hT hm c hd hg (hstep m σ hI))
        intro e a w q
        cases e with
        | normal => obtain ⟨M', σ', hg', m', hlt, hI'⟩ := q; exact ih a w ⟨M', σ', m', by omega, hg', hI'⟩
        | exit i => exact q
        | ret => exact q
        | goto l => exact q.elim
        | panic c => exact q.elim
        | outgrown => exact q.elim
    exact wp_loop_rounds (n + 1) (key n a w ⟨M, σ, n, Nat.le_refl _, hg, h0⟩)
  | .exit id, M, σ, a, w, K, hd, hg, h => wp_exit ⟨M, σ, hg, h⟩
  | .ret, M, σ, a, w, K, hd, hg, h => wp_ret ⟨M, σ, hg, h⟩
  | .label _, _, _, _, _, _, _, _, h => h.elim
  | .goto _, _, _, _, _, _, _, _, h => h.elim
  | .scope _, _, _, _, _, _, _, _, h => h.elim
  | .refuse _, _, _, _, _, _, _, _, h => h.elim
  | .rangeFunc .., _, _, _, _, _, _, _, h => h.elim
end Go.VAI

namespace Go.VAI
variable {E : Env} {P : Program}

section res
variable {M : Mp} {σ : St} {a : Act} {w : World}

theorem out1_ok (hg : G E M σ a w) {s : Slot} {r : RS} (h : out1 (stdA P) σ s = some r) {v : Value} (hc : Cl1 E M σ w s v) :
    ∃ I N : List Nat, I.Sublist (gives1 σ s) ∧ (I.Nodup → N.Nodup) ∧ (∀ b ∈ N, ∃ i ∈ I, M.κ b = some i) ∧ ∀ ok : Nat → Prop, (∀ bs F, (∀ i ∈ bs, i ∈ keeps1 σ s) → Good E M w bs F → ∀ b ∈ F, ok b) → RCl1 w ok r v N := by
  unfold out1 at h
  split at h
  · rename_i r0 bs
    cases h
    obtain ⟨F, h1, h2⟩ := hc
    exact ⟨[], [], by simp, by simp, by simp, fun ok hok => ⟨rfl, F, h1, hok bs F (fun i hi => hi) h2⟩⟩
  · rename_i id
    split at h
    · rename_i es sz u hf
      cases h
      obtain ⟨a0, cap, rfl, h1, h2, h3, h4⟩ := hc _ _ _ _ hf
      obtain ⟨k0, k1, k2, F, k3, k4⟩ := hg.files _ _ hf
      have hoff := k0 rfl
      by_cases hcap : cap = 0
      · have hes : es = [] := by apply List.eq_nil_of_length_eq_zero; clear h4; omega
        subst hes; subst hcap
        exact ⟨[], [], by simp, by simp, by simp, fun ok hok => .inr (.inl ⟨rfl, rfl, a0, rfl⟩)⟩
      · obtain ⟨rfl, g1, c, e, g2, g3⟩ := h4 hcap
        cases u with
        | deep z0 zs =>
          obtain ⟨⟨N, n1, n2, n3⟩, n4⟩ := k4
          refine ⟨[id], M.blk id :: N, by simp [gives1, hf], fun _ => List.nodup_cons.2 ⟨fun hm => (n3 _ hm).2.2 rfl, n2⟩, fun b hb => ⟨id, by simp, ?_⟩, fun ok hok => .inr (.inr ⟨z0, zs, rfl, M.blk id, c, e, cap, N, rfl, by simp [hoff], h1, hcap, g2, by simpa [hoff] using g3, by rw [hoff] at n1; exact n1⟩)⟩
          rcases List.mem_cons.1 hb with rfl | hb
          · exact g1
          · exact (n3 b hb).1
        | free =>
          simp only [GoodU] at k4; subst k4
          exact ⟨[id], [M.blk id], by simp [gives1, hf], by simp, fun b hb => ⟨id, by simp, by simp only [List.mem_singleton] at hb; subst hb; exact g1⟩, fun ok hok => .inl ⟨M.blk id, c, e, cap, [], rfl, by simp [hoff], h1, hcap, g2, by simpa [hoff] using g3, by rw [hoff] at k3; exact k3, rfl, fun _ => rfl, by simp⟩⟩
        | sh bs =>
          exact ⟨[id], [M.blk id], by simp [gives1, hf], by simp, fun b hb => ⟨id, by simp, by simp only [List.mem_singleton] at hb; subst hb; exact g1⟩, fun ok hok => .inl ⟨M.blk id, c, e, cap, F, rfl, by simp [hoff], h1, hcap, g2, by simpa [hoff] using g3, by rw [hoff] at k3; exact k3, rfl, fun hu => by (cases hu), hok bs F (fun i hi => by simp [keeps1, hf, rubs, hi]) k4⟩⟩
    · rename_i es sz u hf
      cases h
      obtain ⟨F, f1, f2⟩ := Hdr.rep hg hf (hc _ _ _ _ hf)
      rw [sub_full] at f1
      exact ⟨[], [], by simp, by simp, by simp, fun ok hok => ⟨rfl, F, f1, hok (id :: rubs u) F (fun i hi => by simpa [keeps1, hf] using hi) f2⟩⟩
    · cases h
  · rename_i id l
    split at h
    · rename_i es sz u hf
      split at h
      · cases h
      rename_i hnd
      have hnd : isDeepU u = false := by simpa using hnd
      cases h
      obtain ⟨a0, cap, rfl, h1, h2, h3, h4⟩ := hc _ _ _ _ hf
      obtain ⟨k0, k1, k2, F, k3, k4⟩ := hg.files _ _ hf
      have hoff := k0 rfl
      have hsub : (stdA P).sub es 0 l = es.take l := by show (es.drop 0).take l = _; rw [List.drop_zero]
      have hlen : (es.take l).length = l := by rw [List.length_take]; clear h4; omega
      rw [hsub]
      by_cases hcap : cap = 0
      · have hl : l = 0 := by clear h4; omega
        subst hl; subst hcap
        exact ⟨[], [], by simp, by simp, by simp, fun ok hok => .inr (.inl ⟨rfl, by simp, a0, rfl⟩)⟩
      · obtain ⟨rfl, g1, c, e, g2, g3⟩ := h4 hcap
        obtain ⟨F', f1, f2⟩ := k3.take l
        refine ⟨[id], [M.blk id], by simp [gives1, hf], by simp, fun b hb => ⟨id, by simp, ?_⟩, fun ok hok => .inl ⟨M.blk id, c, e, cap, F', rfl, by simp [hoff, hlen], by rw [hlen]; exact h1, hcap, g2, by simpa [hoff] using g3, by rw [hoff] at f1; exact f1, hnd, fun hu => ?_, ?_⟩⟩
        · simp only [List.mem_singleton] at hb; subst hb; exact g1
        · subst hu
          simp only [GoodU] at k4; subst k4
          exact List.eq_nil_iff_forall_not_mem.2 (fun c hc => by have := f2 c hc; simp at this)
        · cases u with
          | free =>
            simp only [GoodU] at k4; subst k4
            intro b hb; have := f2 b hb; simp at this
          | sh bs => intro b hb; exact hok bs F (fun i hi => by simp [keeps1, hf, rubs, hi]) k4 b (f2 b hb)
          | deep z0 zs => cases hnd
    · rename_i es sz u hf
      cases h
      obtain ⟨F, f1, f2⟩ := Hdr.rep hg hf (hc _ _ _ _ hf)
      exact ⟨[], [], by simp, by simp, by simp, fun ok hok => ⟨rfl, F, f1, hok (id :: rubs u) F (fun i hi => by simpa [keeps1, hf] using hi) f2⟩⟩
    · cases h
  · rename_i id o l hno
    split at h
    · rename_i es sz u io hf
      cases h
      obtain ⟨F, f1, f2⟩ := Hdr.rep hg hf (hc _ _ _ _ hf)
      exact ⟨[], [], by simp, by simp, by simp, fun ok hok => ⟨rfl, F, f1, hok (id :: rubs u) F (fun i hi => by
        match o, hno with
        | 0, hno => exact (hno rfl).elim
        | o + 1, _ => cases io <;> simpa [keeps1, hf] using hi) f2⟩⟩
    · cases h
  · cases h

theorem outL_ok {f : Slot → Option RS} {gv kp : Slot → List Nat} {C : Slot → Value → Prop} {R : (Nat → Prop) → RS → Value → List Nat → Prop}
    (hf : ∀ s r v, f s = some r → C s v → ∃ I N : List Nat, I.Sublist (gv s) ∧ (I.Nodup → N.Nodup) ∧ (∀ b ∈ N, ∃ i ∈ I, M.κ b = some i) ∧ ∀ ok : Nat → Prop, (∀ bs F, (∀ i ∈ bs, i ∈ kp s) → Good E M w bs F → ∀ b ∈ F, ok b) → R ok r v N) :
    ∀ {ls : List Slot} {xs : List RS} {vs : List Value}, optAll f ls = some xs → All2 C ls vs →
      ∃ I N : List Nat, I.Sublist (ls.flatMap gv) ∧ (I.Nodup → N.Nodup) ∧ (∀ b ∈ N, ∃ i ∈ I, M.κ b = some i) ∧ ∀ ok : Nat → Prop, (∀ bs F, (∀ i ∈ bs, i ∈ ls.flatMap kp) → Good E M w bs F → ∀ b ∈ F, ok b) → RAll (R ok) xs vs N
  | [], xs, vs, h, hc => by cases hc; simp [optAll] at h; subst h; exact ⟨[], [], by simp, by simp, by simp, fun _ _ => .nil⟩
  | s :: ls, xs, vs, h, hc => by
    cases hc with
    | cons h1 t =>
      simp only [optAll] at h
      split at h
      · rename_i y hy
        split at h
        · rename_i ys hys
          cases h
          obtain ⟨I1, N1, a1, a4, a2, a3⟩ := hf _ _ _ hy h1
          obtain ⟨I2, N2, b1, b4, b2, b3⟩ := outL_ok hf hys t
          refine ⟨I1 ++ I2, N1 ++ N2, by rw [List.flatMap_cons]; exact a1.append b1, fun hn => ?_, fun b hb => ?_, fun ok hok =>
            .cons (a3 ok (fun bs F hbs => hok bs F (fun i hi => by rw [List.flatMap_cons]; exact List.mem_append_left _ (hbs i hi)))) (b3 ok (fun bs F hbs => hok bs F (fun i hi => by rw [List.flatMap_cons]; exact List.mem_append_right _ (hbs i hi))))⟩
          · obtain ⟨q1, q2, q3⟩ := List.nodup_append.1 hn
            refine List.nodup_append.2 ⟨a4 q1, b4 q2, fun x hx y hy e => ?_⟩
            subst e
            obtain ⟨i, hi, e1⟩ := a2 x hx
            obtain ⟨j, hj, e2⟩ := b2 x hy
            rw [e1] at e2; cases e2
            exact q3 i hi i hj rfl
          · rcases List.mem_append.1 hb with hb | hb
            · obtain ⟨i, hi, e1⟩ := a2 b hb; exact ⟨i, by simp [hi], e1⟩
            · obtain ⟨i, hi, e1⟩ := b2 b hb; exact ⟨i, by simp [hi], e1⟩
        · cases h
      · cases h

theorem out2_ok (hg : G E M σ a w) {s : Slot} {r : RS} (h : out2 (stdA P) σ s = some r) {v : Value} (hc : ClS E M σ w s v) :
    ∃ I N : List Nat, I.Sublist (gives σ s) ∧ (I.Nodup → N.Nodup) ∧ (∀ b ∈ N, ∃ i ∈ I, M.κ b = some i) ∧ ∀ ok : Nat → Prop, (∀ bs F, (∀ i ∈ bs, i ∈ keeps σ s) → Good E M w bs F → ∀ b ∈ F, ok b) → RCl2 w ok r v N := by
  have one : ∀ {s : Slot}, Cl1 E M σ w s v → out1 (stdA P) σ s = some r → ∃ I N : List Nat, I.Sublist (gives1 σ s) ∧ (I.Nodup → N.Nodup) ∧ (∀ b ∈ N, ∃ i ∈ I, M.κ b = some i) ∧ ∀ ok : Nat → Prop, (∀ bs F, (∀ i ∈ bs, i ∈ keeps1 σ s) → Good E M w bs F → ∀ b ∈ F, ok b) → RCl2 w ok r v N := by
    intro s hc h
    obtain ⟨I, N, h1, h4, h2, h3⟩ := out1_ok hg h hc
    refine ⟨I, N, h1, h4, h2, fun ok hok => ?_⟩
    have := h3 ok hok
    cases r with
    | ag ls => exact this.elim
    | _ => exact this
  cases s with
  | ag ls =>
    simp only [out2] at h
    split at h
    · rename_i xs hx
      cases h
      obtain ⟨cs, rfl, hc⟩ := hc
      obtain ⟨I, N, h1, h4, h2, h3⟩ := outL_ok (E := E) (M := M) (w := w) (R := RCl1 w) (fun s r v h hc => out1_ok hg h hc) hx hc
      exact ⟨I, N, h1, h4, h2, fun ok hok => ⟨cs, rfl, h3 ok hok⟩⟩
    · cases h
  | pv r0 bs => exact one (s := .pv r0 bs) hc h
  | own id sub => exact one (s := .own id sub) hc h
  | ref id o => simp [out2, out1] at h
  | rref id i o => simp [out2, out1] at h
  | lf id i o yl => simp [out2, out1] at h
  | clo f ls => simp [out2, out1] at h
  | tup ls => simp [out2, out1] at h
  | undef => simp [out2, out1] at h
  | dead => simp [out2, out1] at h

def resOne (tmps : Array Value) : ResultVar → Sem Value
  | .tmp t => pure (tmps.getD t undef)
  | .cell a t => do loadVar t (← asAddr (tmps.getD a undef))

theorem resSlot_ok (hT : TTok P) (hg : G E M σ a w) {r : ResultVar} {s : Slot} (h : resSlot σ r = some s) : ∃ v, (resOne a.tmps r).run P w = .ok v w ∧ ClS E M σ w s v := by
  unfold resSlot at h
  split at h
  · rename_i t
    cases h
    exact ⟨a.tmps.getD t undef, rfl, hg.slots t⟩
  · rename_i p t
    split at h
    · rename_i id i hs ht
      split at h
      · rename_i ls hf
        split at h
        · rename_i hlen
          obtain ⟨k1, c, e, k2, k3⟩ := hg.files _ _ hf
          have hp := hg.slots p
          rw [hs] at hp
          have hv := hp _ hf
          have hcl : c.toList.length = ls.length := k3.length.symm
          have k5 : All2 (Cl1 E M σ w) ls c.toList := by
            have := k3.imp (g := fun x => x) (q := Cl1 E M σ w) (fun s v hc => by
              rcases hc with hc | rfl
              · exact hc.1
              · exact trivial)
            rw [List.map_id'] at this; exact this
          obtain ⟨l1, l2⟩ := run_loadAt (P := P) (w := w) (b := M.blk id) (o := 0) hT ht (cs := c.toList) (by omega) (fun j v hj => by
            have := All2.cells k2 0 j v (by simpa using hj)
            exact this)
          have hrun : ∀ v, (Instr.loadAt t (.pointer (some ⟨M.blk id, 0, none⟩))).run P w = .ok v w → (resOne a.tmps (.cell p t)).run P w = .ok v w := by
            intro v hh
            simp only [resOne, hv, Sem.run_bind, asAddr] 
            simp [Instr.loadAt, Instr.sureAddr] at hh
            simpa using hh
          cases hag : i.ag with
          | true =>
            simp only [ofSleaves, hag, if_true] at h
            cases h
            exact ⟨_, hrun _ (l1 hag), _, rfl, k5⟩
          | false =>
            obtain ⟨v, hv1, l2'⟩ := l2 hag
            rw [hv1] at k5
            rw [hag] at h
            match ls, k5 with
            | [y], .cons hy _ =>
              have := ofSleaves_one h
              subst this
              exact ⟨v, hrun v l2', ClS.of1 hy⟩
        · cases h
      · cases h
    · cases h

theorem resL_ok (hT : TTok P) (hg : G E M σ a w) : ∀ {rs : List ResultVar} {ss : List Slot}, optAll (resSlot σ) rs = some ss → ∃ vs, (rs.mapM (resOne a.tmps)).run P w = .ok vs w ∧ All2 (ClS E M σ w) ss vs
  | [], ss, h => by simp [optAll] at h; subst h; exact ⟨[], by simp, .nil⟩
  | r :: rs, ss, h => by
    simp only [optAll] at h
    split at h
    · rename_i y hy
      split at h
      · rename_i ys hys
        cases h
        obtain ⟨v, v1, v2⟩ := resSlot_ok hT hg hy
        obtain ⟨vs, w1, w2⟩ := resL_ok hT hg hys
        exact ⟨v :: vs, by simp [List.mapM_cons, v1, w1], .cons v2 w2⟩
      · cases h
    · cases h

theorem results_ok (hT : TTok P) (hg : G E M σ a w) {fn : Func} {rs : RS} (h : resultS (stdA P) σ fn.results.toList = some rs) {Feet : Nat → Prop} {V : Nat → Nat → Nat → Value → Prop} (hV : ∀ id es sz u o l v, σ.files id = some (.row es sz u true) → Hdr M w id es.length sz o l v → rs = .vw id o l → V id o l v) (hF1 : ∀ b, E.R b → Feet b) (hF2 : ∀ i b, E.lentB i b → Feet b) :
    ∃ v N, (results fn a.tmps).run P w = .ok v w ∧ N.Nodup ∧ (∀ b ∈ N, E.w0.heap.size ≤ b ∧ b < w.heap.size) ∧ RClS w V (fun b => b < w.heap.size ∧ b ∉ N ∧ (E.w0.heap.size ≤ b ∨ Feet b)) rs v N := by
  unfold resultS at h
  split at h
  · rename_i ss hss
    obtain ⟨vs, r1, r2⟩ := resL_ok hT hg hss
    have hrun : (results fn a.tmps).run P w = .ok (if h : (⟨vs⟩ : Array Value).size = 1 then (⟨vs⟩ : Array Value)[0] else .tuple ⟨vs⟩) w := by
      have e : results fn a.tmps = (do let vs ← fn.results.mapM (resOne a.tmps); pure (if h : vs.size = 1 then vs[0] else .tuple vs)) := by
        unfold results
        congr 1
      rw [e, Array.mapM_eq_mapM_toList]
      simp [r1]
    split at h
    · rename_i r hvw
      cases h
      unfold vwOf at hvw
      split at hvw
      · rename_i id sub
        split at hvw
        · rename_i es sz u hf
          cases r2 with
          | cons h1 tl =>
            cases tl
            rename_i v
            cases sub with
            | none =>
              cases hvw
              exact ⟨v, [], by rw [hrun]; rfl, by simp, by simp, rfl, hV id es sz u 0 es.length v hf (h1 _ _ _ _ hf) rfl⟩
            | some q =>
              obtain ⟨o, l⟩ := q
              cases hvw
              exact ⟨v, [], by rw [hrun]; rfl, by simp, by simp, rfl, hV id es sz u o l v hf (h1 _ _ _ _ hf) rfl⟩
        · cases hvw
      · cases hvw
    rename_i hnvw
    split at h
    · rename_i hcond
      obtain ⟨hnod, hdis⟩ := hcond
      -- the parts
      have hdis' : ∀ i ∈ ss.flatMap (keeps σ), i ∉ ss.flatMap (gives σ) := by
        intro i hi
        have := List.all_eq_true.1 hdis i hi
        simpa using this
      have parts : ∀ {xs : List RS}, optAll (out2 (stdA P) σ) ss = some xs → ∃ N : List Nat, N.Nodup ∧ (∀ b ∈ N, E.w0.heap.size ≤ b ∧ b < w.heap.size) ∧ RAll (RCl2 w (fun b => b < w.heap.size ∧ b ∉ N ∧ (E.w0.heap.size ≤ b ∨ Feet b))) xs vs N := by
        intro xs hxs
        obtain ⟨I, N, n1, n4, n2, n3⟩ := outL_ok (E := E) (M := M) (w := w) (R := RCl2 w) (fun s r v h hc => out2_ok hg h hc) hxs r2
        have hN : ∀ b ∈ N, ∃ i ∈ ss.flatMap (gives σ), M.κ b = some i := fun b hb => by
          obtain ⟨i, hi, e⟩ := n2 b hb
          exact ⟨i, n1.subset hi, e⟩
        have hgio : ∀ i ∈ ss.flatMap (gives σ), ∃ es sz u, σ.files i = some (.row es sz u false) := by
          intro i hi
          obtain ⟨s, _, hs⟩ := List.mem_flatMap.1 hi
          have g1 : ∀ s, i ∈ gives1 σ s → ∃ es sz u, σ.files i = some (.row es sz u false) := by
            intro s hs
            unfold gives1 at hs
            split at hs
            · split at hs
              · rename_i hf; simp at hs; subst hs; exact ⟨_, _, _, hf⟩
              · simp at hs
            · split at hs
              · rename_i hf; simp at hs; subst hs; exact ⟨_, _, _, hf⟩
              · simp at hs
            · simp at hs
          cases s with
          | ag ls => simp only [gives] at hs; obtain ⟨s', _, hs'⟩ := List.mem_flatMap.1 hs; exact g1 s' hs'
          | pv r bs => exact g1 (.pv r bs) hs
          | own i' sub => exact g1 (.own i' sub) hs
          | ref i' o => exact g1 (.ref i' o) hs
          | rref i' x o => exact g1 (.rref i' x o) hs
          | lf i' x o yl => exact g1 (.lf i' x o yl) hs
          | clo f ls => exact g1 (.clo f ls) hs
          | tup ls => exact g1 (.tup ls) hs
          | undef => exact g1 .undef hs
          | dead => exact g1 .dead hs
        refine ⟨N, n4 (n1.nodup hnod), fun b hb => ?_, n3 _ (fun bs F hbs hG b hb => ?_)⟩
        · obtain ⟨i, hi, hk⟩ := hN b hb
          refine ⟨?_, (hg.own _ _ hk)⟩
          rcases Nat.lt_or_ge b E.w0.heap.size with hlt | hge
          · obtain ⟨⟨b0, o, n, sz⟩, hq, _⟩ := hg.lent b i hlt hk
            obtain ⟨⟨es, u0, hf, _⟩, _⟩ := hg.io _ _ _ _ _ hq
            obtain ⟨es', sz', u', hf'⟩ := hgio i hi
            rw [hf] at hf'; cases hf'
          · exact hge
        · obtain ⟨g1, g2⟩ := hG b hb
          rcases g2 with ⟨g2, g3⟩ | ⟨i, hi, g2⟩
          · refine ⟨g1, fun hbN => ?_, g3.imp (fun h => h) (hF1 b)⟩
            obtain ⟨i, _, hk⟩ := hN b hbN
            rw [hk] at g2; cases g2
          · refine ⟨g1, fun hbN => ?_, ?_⟩
            · obtain ⟨j, hj, hk⟩ := hN b hbN
              rw [hk] at g2; cases g2
              exact hdis' _ (hbs _ hi) hj
            · rcases Nat.lt_or_ge b E.w0.heap.size with hlt | hge
              · exact .inr (hF2 i b (hg.lent b i hlt g2))
              · exact .inl hge
      split at h
      · rename_i x hx
        cases h
        obtain ⟨N, p1, p2, p3⟩ := parts hx
        cases p3 with
        | cons h1 tl =>
          rename_i v N1 vs' N2
          cases tl
          simp only [List.append_nil] at p1 p2 h1
          refine ⟨v, N1, by rw [hrun]; rfl, p1, p2, ?_⟩
          cases rs with
          | tup ls => exact h1.elim
          | pv r => exact h1
          | row es sz u => exact h1
          | ag ls => exact h1
          | vw p o l => exact h1.elim
      · rename_i xs hne hx
        cases h
        obtain ⟨N, p1, p2, p3⟩ := parts hx
        have hlen : vs.length ≠ 1 := by
          intro hl
          cases p3 with
          | nil => simp at hl
          | cons h1 tl =>
            cases tl with
            | nil => exact hne _ rfl
            | cons h2 tl => simp at hl
        refine ⟨.tuple ⟨vs⟩, N, ?_, p1, p2, vs, rfl, p3⟩
        rw [hrun, dif_neg (by simpa using hlen)]
      · cases h
    · cases h
  · cases h

end res
end Go.VAI

namespace Go.VAI
variable {P : Program}

/-! ### What is lent, seen from within -/

theorem rootsS_mem {p : Nat} {R : Root} : ∀ {ls : List PV} {cs : List Value} {j : Nat}, R ∈ rootsS p j ls cs → ∃ k es v, ls[k]? = some (.sl es) ∧ cs[k]? = some v ∧ R = ⟨p + 4096 * (j + k + 1), es, 1, [], v, blkL v⟩
  | [], _, _, h => by simp [rootsS] at h
  | _ :: _, [], _, h => by simp [rootsS] at h
  | x :: ls, v :: cs, j, h => by
    have rest : R ∈ rootsS p (j + 1) ls cs → ∃ k es v', (x :: ls)[k]? = some (.sl es) ∧ (v :: cs)[k]? = some v' ∧ R = ⟨p + 4096 * (j + k + 1), es, 1, [], v', blkL v'⟩ := fun h => by
      obtain ⟨k, es, v', h1, h2, h3⟩ := rootsS_mem h
      exact ⟨k + 1, es, v', by simpa using h1, by simpa using h2, by rw [h3, show j + 1 + k + 1 = j + (k + 1) + 1 by omega]⟩
    cases x with
    | sl es =>
      simp only [rootsS] at h
      rcases List.mem_cons.1 h with rfl | h
      · exact ⟨0, es, v, rfl, rfl, by simp⟩
      · exact rest h
    | val u => exact rest h
    | agg l => exact rest h
    | pt l => exact rest h
    | fn f l => exact rest h
theorem rootsS_of {p : Nat} : ∀ {ls : List PV} {cs : List Value} {j k : Nat} {es : List PV} {v : Value}, ls[k]? = some (.sl es) → cs[k]? = some v → ⟨p + 4096 * (j + k + 1), es, 1, [], v, blkL v⟩ ∈ rootsS p j ls cs
  | [], _, _, k, _, _, h, _ => by simp at h
  | _ :: _, [], _, k, _, _, _, h => by simp at h
  | x :: ls, v0 :: cs, j, 0, es, v, h1, h2 => by
    simp at h1 h2; subst h1 h2
    simp [rootsS]
  | x :: ls, v0 :: cs, j, k + 1, es, v, h1, h2 => by
    have := rootsS_of (p := p) (ls := ls) (cs := cs) (j := j + 1) (k := k) (es := es) (v := v) (by simpa using h1) (by simpa using h2)
    rw [show j + 1 + k + 1 = j + (k + 1) + 1 by omega] at this
    cases x <;> simp only [rootsS] <;> first | exact this | exact List.mem_cons_of_mem _ this

section roots
variable {f : FuncId} {w : World} {args : List PV} {vs : List Value} {Fs : List (List Nat)}

/-- A root's place. -/
theorem root_cases (hok : ArgsOk P f w args vs Fs) {R : Root} (h : R ∈ rootsOf f args vs Fs) : ∃ p, inout f = [p] ∧ cls R.id = p ∧ p < ioMax ∧ p < 4096 ∧
    ((R.id = p ∧ args[p]? = some (.sl R.es) ∧ vs[p]? = some R.v ∧ Fs[p]? = some R.N ∧ R.sz = ioSz f ∧ R.zs = ioDp f) ∨
      ∃ ls cs k, args[p]? = some (.agg ls) ∧ vs[p]? = some (.agg ⟨cs⟩) ∧ ls[k]? = some (.sl R.es) ∧ cs[k]? = some R.v ∧ R.id = p + 4096 * (k + 1) ∧ R.sz = 1 ∧ R.zs = []) := by
  rcases hok.one with e | ⟨p, e⟩
  · simp [rootsOf, e] at h
  · have hio := hok.io p (by rw [e]; simp)
    have hc : cls p = p := cls_lt hio.2.2
    unfold rootsOf at h
    rw [e] at h
    simp only at h
    split at h
    · rename_i r v N hr hv hN
      refine ⟨p, e, ?_, hio.2.1, hio.2.2, ?_⟩
      · unfold rootsP at h
        split at h
        · simp only [List.mem_singleton] at h; subst h; exact hc
        · obtain ⟨k, es, v', _, _, rfl⟩ := rootsS_mem h
          show (p + 4096 * (0 + k + 1)) % 4096 = p
          omega
        · simp at h
      · unfold rootsP at h
        split at h
        · simp only [List.mem_singleton] at h; subst h
          exact .inl ⟨rfl, hr, hv, hN, rfl, rfl⟩
        · obtain ⟨k, es, v', h1, h2, rfl⟩ := rootsS_mem h
          refine .inr ⟨_, _, k, hr, hv, h1, h2, ?_, rfl, rfl⟩
          show p + 4096 * (0 + k + 1) = _
          omega
        · simp at h
    · simp at h

theorem root_same (hok : ArgsOk P f w args vs Fs) {R S : Root} (h : R ∈ rootsOf f args vs Fs) (k : S ∈ rootsOf f args vs Fs) (e : R.id = S.id) : R = S := by
  have hlen : ∀ {R : Root}, R ∈ rootsOf f args vs Fs → R.zs = [] → R.N = blkL R.v := fun h hz => (hok.lent _ h).1.free hz
  obtain ⟨p, e1, _, _, hp, h1⟩ := root_cases hok h
  obtain ⟨p', e2, _, _, _, h2⟩ := root_cases hok k
  rw [e1] at e2; cases e2
  obtain ⟨id, es, sz, zs, v, N⟩ := R
  obtain ⟨id', es', sz', zs', v', N'⟩ := S
  simp only at e h1 h2
  subst e
  rcases h1 with ⟨a1, a2, a3, a4, a5, a6⟩ | ⟨ls, cs, k1, a1, a2, a3, a4, a5, a6, a7⟩ <;> rcases h2 with ⟨b1, b2, b3, b4, b5, b6⟩ | ⟨ls', cs', k2, b1, b2, b3, b4, b5, b6, b7⟩
  · rw [a2] at b2; cases b2
    rw [a3] at b3; cases b3
    rw [a4] at b4; cases b4
    rw [a5, b5, a6, b6]
  · omega
  · omega
  · rw [a1] at b1; cases b1
    rw [a2] at b2; cases b2
    have : k1 = k2 := by omega
    subst this
    rw [a3] at b3; cases b3
    rw [a4] at b4; cases b4
    have n1 := hlen h a7
    have n2 := hlen k b7
    simp only at n1 n2
    rw [a6, b6, a7, b7, n1, n2]

def rootAt (f : FuncId) (args : List PV) (vs : List Value) (Fs : List (List Nat)) (id : Nat) : Option Root := (rootsOf f args vs Fs).find? (fun R => R.id == id)
theorem rootAt_some {id : Nat} {R : Root} (h : rootAt f args vs Fs id = some R) : R ∈ rootsOf f args vs Fs ∧ R.id = id := ⟨List.mem_of_find?_eq_some h, by simpa using List.find?_some h⟩
theorem rootAt_of (hok : ArgsOk P f w args vs Fs) {R : Root} (h : R ∈ rootsOf f args vs Fs) : rootAt f args vs Fs R.id = some R := by
  unfold rootAt
  cases hq : (rootsOf f args vs Fs).find? (fun S => S.id == R.id) with
  | none => have := List.find?_eq_none.1 hq R h; simp at this
  | some S =>
    have h1 := List.mem_of_find?_eq_some hq
    have h2 : S.id = R.id := by simpa using List.find?_some hq
    rw [root_same hok h1 h h2]

/-- The block and the place of a header. -/
def hdAt : Value → Option (Nat × Nat × Nat)
  | .slice (some a) l cap => if cap = 0 then none else some (a.block, a.off, l)
  | _ => none

/-- The call's surroundings. -/
def envOf (f : FuncId) (w : World) (args : List PV) (vs : List Value) (Fs : List (List Nat)) (hsm : ∀ R ∈ rootsOf f args vs Fs, cls R.id < ioMax) : Env where
  w0 := w
  R := Feet f args vs Fs
  io id := (rootAt f args vs Fs id).bind fun R => (hdAt R.v).map fun q => (q.1, q.2.1, q.2.2, R.sz)
  ioO id := match rootAt f args vs Fs id with
    | some R => R.N.tail
    | none => []
  small id q h := by
    cases hq : rootAt f args vs Fs id with
    | none => rw [hq] at h; cases h
    | some R => obtain ⟨h1, h2⟩ := rootAt_some hq; rw [← h2]; exact hsm R h1

/-- A root by its parts. -/
theorem root_parts (hok : ArgsOk P f w args vs Fs) {R : Root} (h : R ∈ rootsOf f args vs Fs) : (R.N = [] ∧ hdAt R.v = none ∧ R.es = [] ∧ ∃ a, R.v = .slice a 0 0) ∨
    ∃ b o c e cap N', R.v = .slice (some ⟨b, o, none⟩) R.es.length cap ∧ cap ≠ 0 ∧ R.es.length ≤ cap ∧ hdAt R.v = some (b, o, R.es.length) ∧ w.heap[b]? = some (.cells c e (0, 0)) ∧ o + cap * R.sz ≤ c.size ∧ R.N = b :: N' ∧ RowO noOk w R.zs b R.sz o R.es N' := by
  obtain ⟨⟨a0, cap, h1, h2, h3, h4⟩, _⟩ := hok.lent R h
  by_cases hc : cap = 0
  · have hes : R.es = [] := List.eq_nil_of_length_eq_zero (by omega)
    refine .inl ⟨h3 hc, ?_, hes, a0, by rw [h1, hc, hes]; rfl⟩
    rw [h1]; cases a0 <;> simp [hdAt, hc]
  · obtain ⟨b, o, c, e, N', rfl, q1, q2, q3, q4⟩ := h4 hc
    exact .inr ⟨b, o, c, e, cap, N', h1, hc, h2, by rw [h1]; simp [hdAt, hc], q1, q2, q3, q4⟩

theorem roots_apart (hok : ArgsOk P f w args vs Fs) {R S : Root} (h : R ∈ rootsOf f args vs Fs) (k : S ∈ rootsOf f args vs Fs) {b : Nat} (h1 : b ∈ R.N) (h2 : b ∈ S.N) : R = S := by
  have := hok.nodup
  generalize rootsOf f args vs Fs = l at *
  clear hok
  induction l with
  | nil => simp at h
  | cons T l ih =>
    rw [List.flatMap_cons, List.nodup_append] at this
    rcases List.mem_cons.1 h with e1 | hR <;> rcases List.mem_cons.1 k with e | kS
    · rw [e1, e]
    · rw [e1] at h1; exact absurd rfl (this.2.2 b h1 b (List.mem_flatMap.2 ⟨S, kS, h2⟩))
    · rw [e] at h2; exact absurd rfl (this.2.2 b h2 b (List.mem_flatMap.2 ⟨R, hR, h1⟩))
    · exact ih hR kS this.2.1

theorem start_ok (hok : ArgsOk P f w args vs Fs) (hsm : ∀ R ∈ rootsOf f args vs Fs, cls R.id < ioMax) {n : Nat} (hn : args.length ≤ n) {ps : List Nat} (hps : (inout f).all (lentOk ps (ioSz f) args) = true) {σ : St} (hσ : σ = start n ps (inout f) (ioSz f) (ioDp f) args) :
    ∃ M, G (envOf f w args vs Fs hsm) M σ { tmps := (⟨vs⟩ : Array Value) ++ Array.replicate (n - vs.length) undef, defers := [] } w := by
  generalize hE : envOf f w args vs Fs hsm = E
  have hw0 : E.w0 = w := by rw [← hE]; rfl
  have hR : E.R = Feet f args vs Fs := by rw [← hE]; rfl
  have hio : ∀ id, E.io id = (rootAt f args vs Fs id).bind fun R => (hdAt R.v).map fun q => (q.1, q.2.1, q.2.2, R.sz) := by rw [← hE]; exact fun _ => rfl
  have hioO : ∀ R ∈ rootsOf f args vs Fs, E.ioO R.id = R.N.tail := by
    intro R h
    rw [← hE]; simp only [envOf, rootAt_of hok h]
  let M : Mp := { κ := fun b => ((rootsOf f args vs Fs).find? (fun R => R.N.elem b)).map (·.id),
                  blk := fun id => match (rootAt f args vs Fs id).bind fun R => hdAt R.v with
                    | some q => q.1
                    | none => 0,
                  off := fun id => match (rootAt f args vs Fs id).bind fun R => hdAt R.v with
                    | some q => q.2.1
                    | none => 0 }
  have hκ : ∀ b id, M.κ b = some id → ∃ R ∈ rootsOf f args vs Fs, R.id = id ∧ b ∈ R.N := by
    intro b id h
    have h : ((rootsOf f args vs Fs).find? (fun R => R.N.elem b)).map (·.id) = some id := h
    cases hq : (rootsOf f args vs Fs).find? (fun R => R.N.elem b) with
    | none => rw [hq] at h; cases h
    | some R =>
      rw [hq] at h; cases h
      exact ⟨R, List.mem_of_find?_eq_some hq, rfl, by simpa using List.find?_some hq⟩
  have hκ2 : ∀ R ∈ rootsOf f args vs Fs, ∀ b ∈ R.N, M.κ b = some R.id := by
    intro R h b hb
    show ((rootsOf f args vs Fs).find? (fun R => R.N.elem b)).map (·.id) = some R.id
    cases hq : (rootsOf f args vs Fs).find? (fun R => R.N.elem b) with
    | none => have := List.find?_eq_none.1 hq R h; simp at this; exact absurd hb this
    | some S => rw [roots_apart hok (List.mem_of_find?_eq_some hq) h (by simpa using List.find?_some hq) hb]; rfl
  have hplace : ∀ R ∈ rootsOf f args vs Fs, ∀ q, hdAt R.v = some q → M.blk R.id = q.1 ∧ M.off R.id = q.2.1 := by
    intro R h q hq
    constructor
    · show (match (rootAt f args vs Fs R.id).bind fun R => hdAt R.v with | some q => q.1 | none => 0) = _
      rw [rootAt_of hok h]; simp only [Option.bind_some, hq]
    · show (match (rootAt f args vs Fs R.id).bind fun R => hdAt R.v with | some q => q.2.1 | none => 0) = _
      rw [rootAt_of hok h]; simp only [Option.bind_some, hq]
  -- the files
  have hfile : ∀ R ∈ rootsOf f args vs Fs, σ.files R.id = some (.row R.es R.sz (ruOf R.zs) true) := by
    intro R h
    obtain ⟨p, e, hc, _, hp, hh⟩ := root_cases hok h
    have hel : (inout f).elem p = true := by rw [e]; simp
    rw [hσ]
    simp only [start, hc, hel, if_true]
    rcases hh with ⟨a1, a2, a3, a4, a5, a6⟩ | ⟨ls, cs, k, a1, a2, a3, a4, a5, a6, a7⟩
    · rw [a2]
      simp only [a1, hp, if_true]
      rw [e] at hps
      simp only [List.all_cons, List.all_nil, Bool.and_true, lentOk, a2] at hps
      split at hps
      · rw [if_pos (by simpa using hps), a5, a6]
      · cases hps
    · rw [a1]
      simp only
      rw [if_neg (by omega), show R.id / 4096 - 1 = k by omega, a3, a6, a7]
      rfl
  have hfile2 : ∀ id g, σ.files id = some g → ∃ R ∈ rootsOf f args vs Fs, R.id = id := by
    intro id g h
    rw [hσ] at h
    simp only [start] at h
    split at h
    rotate_left
    · cases h
    rename_i hel
    rcases hok.one with e | ⟨p, e⟩
    · rw [e] at hel; simp at hel
    have hcl : cls id = p := by rw [e] at hel; simpa using hel
    have hpi := hok.io p (by rw [e]; simp)
    have hv : vs[p]? = some (vs[p]'(by rw [hok.len]; exact hpi.1)) := List.getElem?_eq_getElem _
    have hF : Fs[p]? = some (Fs[p]'(by rw [hok.lenF]; exact hpi.1)) := List.getElem?_eq_getElem _
    rw [hcl] at h
    split at h
    · rename_i es ha
      split at h
      rotate_left
      · cases h
      rename_i hlt
      have hid : id = p := by rw [← hcl]; exact (cls_lt hlt).symm
      refine ⟨⟨p, es, ioSz f, ioDp f, vs[p]'(by rw [hok.len]; exact hpi.1), Fs[p]'(by rw [hok.lenF]; exact hpi.1)⟩, ?_, hid.symm⟩
      simp only [rootsOf, e, ha, hv, hF, rootsP, List.mem_singleton]
    · rename_i ls ha
      split at h
      · cases h
      rename_i hlt
      split at h
      rotate_left
      · cases h
      rename_i es hl
      rcases hok.shape p _ _ ha hv (by rw [e]; simp) with ⟨es', e1⟩ | ⟨ls', cs, e1, e2, e3⟩
      · cases e1
      · cases e1
        have hk := (List.getElem?_eq_some_iff.1 hl).1
        have hlc := e3.length
        have hcv : cs[id / 4096 - 1]? = some (cs[id / 4096 - 1]'(by omega)) := List.getElem?_eq_getElem _
        have := rootsS_of (p := p) (j := 0) hl hcv
        have hin : (⟨p + 4096 * (0 + (id / 4096 - 1) + 1), es, 1, [], cs[id / 4096 - 1]'(by omega), blkL (cs[id / 4096 - 1]'(by omega))⟩ : Root) ∈ rootsOf f args vs Fs := by
          simp only [rootsOf, e, ha, hv, hF, e2, rootsP]; exact this
        exact ⟨_, hin, by show p + 4096 * (0 + (id / 4096 - 1) + 1) = id; simp only [cls] at hcl; omega⟩
    · cases h
  have hdr : ∀ R ∈ rootsOf f args vs Fs, Hdr M w R.id R.es.length R.sz 0 R.es.length R.v := by
    intro R h
    rcases root_parts hok h with ⟨h1, h2, h3, a, h4⟩ | ⟨b, o, c, e, cap, N', h1, h2, h3, h4, h5, h6, h7, h8⟩
    · rw [h4, h3]; exact ⟨a, 0, rfl, Nat.le_refl _, Nat.le_refl _, Nat.le_refl _, fun h => absurd rfl h⟩
    · obtain ⟨hb, ho⟩ := hplace R h _ h4
      simp only at hb ho
      rw [h1]
      exact ⟨_, cap, rfl, h3, by omega, by omega, fun _ => ⟨by rw [hb, ho]; simp, by rw [hb]; exact hκ2 R h b (by rw [h7]; simp), c, e, by rw [hb]; exact h5, by rw [ho]; simpa using h6⟩⟩
  have hiob : ∀ b id, M.κ b = some id → b < w.heap.size := fun b id h => by
    obtain ⟨R, h1, _, h2⟩ := hκ b id h
    exact (hok.lent R h1).2 b h2
  refine ⟨M, ?_⟩
  refine { iob := fun id _ _ _ b _ hk => by rw [hw0]; exact hiob b id hk, slots := fun k => ?_, tmps := ?_, files := fun id g hg => ?_, defers := rfl, own := fun b id h => hiob b id h, lent := fun b id hb h => ?_, frame := fun b hb _ => by rw [hw0], size := by rw [hw0]; exact Nat.le_refl _, os := by rw [hw0], tape := by rw [hw0]; exact TapeLe.rfl', out := by rw [hw0], io := fun id b o nn sz h => ?_ }
  · -- slots
    have hget : ((⟨vs⟩ : Array Value) ++ Array.replicate (n - vs.length) undef).getD k undef = vs.getD k undef := by
      rw [Array.getD_eq_getD_getElem?, List.getD_eq_getElem?_getD]
      by_cases hk : k < vs.length
      · rw [Array.getElem?_append_left (by simpa using hk)]; simp
      · rw [Array.getElem?_append_right (by simpa using hk), List.getElem?_eq_none (by omega)]
        simp only [Array.getElem?_replicate]
        split <;> rfl
    show ClS E M σ w (σ.slots k) (((⟨vs⟩ : Array Value) ++ Array.replicate (n - vs.length) undef).getD k undef)
    rw [hget]
    by_cases hk : k < args.length
    · have hv : vs[k]? = some (vs[k]'(by rw [hok.len]; exact hk)) := List.getElem?_eq_getElem _
      have hr : args[k]? = some (args[k]) := List.getElem?_eq_getElem _
      have hF : Fs[k]? = some (Fs[k]'(by rw [hok.lenF]; exact hk)) := List.getElem?_eq_getElem _
      rw [List.getD_eq_getElem?_getD, hv, Option.getD_some]
      by_cases hi : k ∈ inout f
      · have hone : inout f = [k] := by
          rcases hok.one with e | ⟨p, e⟩
          · rw [e] at hi; simp at hi
          · rw [e] at hi ⊢; simp at hi; rw [hi]
        rcases hok.shape k _ _ hr hv hi with ⟨es, e1⟩ | ⟨ls, cs, e1, e2, e3⟩
        · have hs : σ.slots k = .own k none := by rw [hσ]; simp only [start, hk, if_true]; rw [if_pos (by simpa using hi), hr, e1]
          rw [hs]
          intro es' sz' u' io' hf
          have hmem : (⟨k, es, ioSz f, ioDp f, vs[k]'(by rw [hok.len]; exact hk), Fs[k]'(by rw [hok.lenF]; exact hk)⟩ : Root) ∈ rootsOf f args vs Fs := by
            simp only [rootsOf, hone, hr, hv, hF, e1, rootsP, List.mem_singleton]
          have h1 := hfile _ hmem
          simp only at h1
          rw [h1] at hf; cases hf
          exact hdr _ hmem
        · have hs : σ.slots k = .ag (agS k 0 ls) := by rw [hσ]; simp only [start, hk, if_true]; rw [if_pos (by simpa using hi), hr, e1]
          rw [hs]
          refine ⟨cs, e2, ?_⟩
          have hmem : ∀ q es v, ls[q]? = some (.sl es) → cs[q]? = some v → (⟨k + 4096 * (q + 1), es, 1, [], v, blkL v⟩ : Root) ∈ rootsOf f args vs Fs := by
            intro q es v h1 h2
            have := rootsS_of (p := k) (j := 0) h1 h2
            rw [show 0 + q + 1 = q + 1 by omega] at this
            simp only [rootsOf, hone, hr, hv, hF, e1, e2, rootsP]
            exact this
          have key : ∀ (ls' : List PV) (cs' : List Value) (j : Nat), All2 (fun x u => shapeL x u ∧ u.oneCell' = true) ls' cs' → (∀ q es v, ls'[q]? = some (.sl es) → cs'[q]? = some v → (⟨k + 4096 * (j + q + 1), es, 1, [], v, blkL v⟩ : Root) ∈ rootsOf f args vs Fs) → All2 (Cl1 E M σ w) (agS k j ls') cs' := by
            intro ls'
            induction ls' with
            | nil => intro cs' j h _; cases h; exact .nil
            | cons x ls' ih =>
              intro cs' j h hm
              cases h with
              | cons h1 h2 =>
              refine .cons ?_ (ih _ (j + 1) h2 (fun q es v a1 a2 => by
                have := hm (q + 1) es v (by simpa using a1) (by simpa using a2)
                rwa [show j + (q + 1) + 1 = j + 1 + q + 1 by omega] at this))
              cases x with
              | val u =>
                obtain ⟨h1, h3⟩ := h1
                have h1 : _ = u := h1
                subst h1
                exact ⟨[], .val _ h3, fun b hb => by simp at hb⟩
              | sl es =>
                have hmm := hm 0 es _ rfl rfl
                rw [show j + 0 + 1 = j + 1 by omega] at hmm
                intro es' sz' u' io' hf
                have h4 := hfile _ hmm
                simp only at h4
                rw [h4] at hf; cases hf
                exact hdr _ hmm
              | agg l => exact h1.1.elim
              | pt l => exact h1.1.elim
              | fn g l => exact h1.1.elim
          refine key ls cs 0 e3 (fun q es v a1 a2 => ?_)
          rw [show 0 + q + 1 = q + 1 by omega]
          exact hmem q es v a1 a2
      · have hs : σ.slots k = .pv args[k] [] := by rw [hσ]; simp [start, hk, hi, List.getD_eq_getElem?_getD]
        rw [hs]
        obtain ⟨h1, h2, h3⟩ := hok.rep k _ _ _ hr hv hF hi
        refine ⟨_, h1, fun b hb => ⟨h2 b hb, .inl ⟨?_, .inr ?_⟩⟩⟩
        · cases hq : M.κ b with
          | none => rfl
          | some p =>
            obtain ⟨R, hR1, _, hR2⟩ := hκ b p hq
            exact absurd hb (h3 R hR1 b hR2)
        · rw [hR]; exact .inl ⟨k, _, hF, hi, hb⟩
    · have hs : σ.slots k = .undef := by rw [hσ]; simp [start, hk]
      rw [hs, List.getD_eq_getElem?_getD, List.getElem?_eq_none (by rw [hok.len]; omega)]
      rfl
  · have : σ.n = n := by rw [hσ]; rfl
    rw [this]; simp [hok.len]; omega
  · obtain ⟨R, h1, rfl⟩ := hfile2 id g hg
    rw [hfile R h1] at hg; cases hg
    refine ⟨fun h => (by cases h), by cases R.zs <;> simp [ruOf, rubs], fun hes => ?_, ?_⟩
    · rcases root_parts hok h1 with ⟨_, _, h3, _⟩ | ⟨b, o, c, e, cap, N', q1, q2, q3, q4, q5, q6, q7, q8⟩
      · exact absurd h3 hes
      · obtain ⟨hb, _⟩ := hplace R h1 _ q4
        exact ⟨by rw [hb]; exact hκ2 R h1 b (by rw [q7]; simp), c, e, by rw [hb]; exact q5⟩
    · rcases root_parts hok h1 with ⟨h2, _, h3, _⟩ | ⟨b, o, c, e, cap, N', q1, q2, q3, q4, q5, q6, q7, q8⟩
      · rw [h3]
        refine ⟨[], .nil _ _ _, ?_⟩
        cases R.zs with
        | nil => exact rfl
        | cons z zs => exact ⟨⟨[], RowO.nil, List.nodup_nil, by simp⟩, by simp⟩
      · obtain ⟨hb, ho⟩ := hplace R h1 _ q4
        simp only at hb ho
        have hnd : R.N.Nodup := by
          have := hok.nodup
          have hall : ∀ (l : List Root), (l.flatMap Root.N).Nodup → ∀ T ∈ l, T.N.Nodup := by
            intro l
            induction l with
            | nil => intro _ T hT; simp at hT
            | cons S l ih =>
              intro hl T hT
              rw [List.flatMap_cons, List.nodup_append] at hl
              rcases List.mem_cons.1 hT with rfl | hT
              · exact hl.1
              · exact ih hl.2.1 T hT
          exact hall _ this R h1
        cases hz : R.zs with
        | nil =>
          rw [hz] at q8
          obtain ⟨_, F, f1, f2⟩ := q8
          have : F = [] := List.eq_nil_iff_forall_not_mem.2 (fun c hc => f2 c hc)
          subst this
          exact ⟨[], by rw [hb, ho]; exact f1, rfl⟩
        | cons z zs =>
          rw [hz] at q8
          rw [q7] at hnd
          obtain ⟨n1, n2⟩ := List.nodup_cons.1 hnd
          have hdeep : DeepU M w R.id R.sz (z :: zs) R.es := ⟨N', by rw [hb, ho]; exact q8, n2, fun c hc => ⟨hκ2 R h1 c (by rw [q7]; simp [hc]), (hok.lent R h1).2 c (by rw [q7]; simp [hc]), by rw [hb]; intro e; subst e; exact n1 hc⟩⟩
          obtain ⟨F, f1, f2⟩ := hdeep.rep
          exact ⟨F, f1, hdeep, f2⟩
  · obtain ⟨R, h1, rfl, h2⟩ := hκ b id h
    rcases root_parts hok h1 with ⟨h3, _⟩ | ⟨b', o, c, e, cap, N', q1, q2, q3, q4, q5, q6, q7, q8⟩
    · rw [h3] at h2; simp at h2
    · refine ⟨(b', o, R.es.length, R.sz), by rw [hio, rootAt_of hok h1]; simp only [Option.bind_some, q4, Option.map_some], ?_⟩
      rw [hioO R h1, q7]
      rw [q7] at h2
      rcases List.mem_cons.1 h2 with rfl | h2
      · exact .inl rfl
      · exact .inr h2
  · rw [hio] at h
    cases hq : rootAt f args vs Fs id with
    | none => rw [hq] at h; cases h
    | some R =>
      obtain ⟨h1, rfl⟩ := rootAt_some hq
      rw [hq] at h
      simp only [Option.bind_some] at h
      rcases root_parts hok h1 with ⟨_, h3, _⟩ | ⟨b', o', c, e, cap, N', q1, q2, q3, q4, q5, q6, q7, q8⟩
      · rw [h3] at h; cases h
      · rw [q4] at h
        cases h
        obtain ⟨hb, ho⟩ := hplace R h1 _ q4
        exact ⟨⟨R.es, ruOf R.zs, hfile R h1, by cases R.zs <;> rfl, rfl⟩, hb, ho, hκ2 R h1 _ (by rw [q7]; simp), c, c, e, by rw [hw0]; exact q5, q5, rfl, fun _ _ => rfl⟩

/-- A lent row at the end of the call. -/
theorem back_ok (hok : ArgsOk P f w args vs Fs) (hsm : ∀ R ∈ rootsOf f args vs Fs, cls R.id < ioMax) {M : Mp} {σ : St} {a : Act} {w' : World} (hg : G (envOf f w args vs Fs hsm) M σ a w') {R : Root} (h : R ∈ rootsOf f args vs Fs) {es : List PV} {sz : Nat} {u : RU}
    (hf : σ.files R.id = some (.row es sz u true)) (hu : u = ruOf R.zs) (hlen : es.length = R.es.length) : Back1 w w' R es := by
  refine ⟨hlen, fun b o l cap hv hc => ?_⟩
  have hio : (envOf f w args vs Fs hsm).io R.id = some (b, o, l, R.sz) := by
    show (rootAt f args vs Fs R.id).bind _ = _
    rw [rootAt_of hok h]
    simp [hdAt, hv, hc]
  have hl : l = R.es.length := by
    obtain ⟨⟨a0, cap0, h1, _⟩, _⟩ := hok.lent R h
    rw [hv] at h1; cases h1; rfl
  have hioO : (envOf f w args vs Fs hsm).ioO R.id = R.N.tail := by
    simp only [envOf, rootAt_of hok h]
  obtain ⟨⟨es2, u2, hf2, _⟩, i1, i2, i3, c0, c, e1, i4, i5, i6, i7⟩ := hg.io _ _ _ _ _ hio
  rw [hf] at hf2
  cases hf2
  obtain ⟨k0, k1, k2, F, k3, k4⟩ := hg.files _ _ hf
  refine ⟨?_, c0, c, e1, i4, i5, i6, fun j hj => i7 j (by rw [hl]; exact hj)⟩
  subst hu
  cases hz : R.zs with
  | nil =>
    rw [hz] at k4
    simp only [ruOf, GoodU] at k4; subst k4
    rw [i1, i2] at k3
    exact ⟨[], ⟨rfl, [], k3, by simp⟩, List.nodup_nil, by simp⟩
  | cons z zs =>
    rw [hz] at k4
    obtain ⟨⟨N, n1, n2, n3⟩, n4⟩ := k4
    rw [i1, i2] at n1
    refine ⟨N, n1, n2, fun x hx => ?_⟩
    obtain ⟨q1, q2, q3⟩ := n3 x hx
    rw [i1] at q3
    refine ⟨?_, q3⟩
    have hlt := hg.iob _ _ _ _ _ hf q1
    obtain ⟨q, hq, hq2⟩ := hg.lent x _ hlt q1
    rw [hio] at hq; cases hq
    rcases hq2 with hq2 | hq2
    · exact absurd hq2.symm q3
    · rw [hioO] at hq2; exact List.mem_of_mem_tail hq2

theorem outAg_ok {w' : World} {p : Nat} {σ : St} (hback : ∀ R ∈ rootsOf f args vs Fs, ∀ es, σ.files R.id = some (.row es 1 .free true) → R.sz = 1 → R.zs = [] → es.length = R.es.length → Back1 w w' R es) : ∀ {ls : List PV} {cs : List Value} {j : Nat} {K : List PV → Prop}, All2 (fun x u => shapeL x u ∧ u.oneCell' = true) ls cs → (∀ R ∈ rootsS p j ls cs, R ∈ rootsOf f args vs Fs) → outL (stdA P) σ p j ls K → ∃ ess, All2 (Back1 w w') (rootsS p j ls cs) ess ∧ K (fillL ls ess)
  | [], cs, j, K, hs, _, h => by
    cases hs
    exact ⟨[], .nil, h⟩
  | x :: ls, cs, j, K, hs, hm, h => by
    cases hs with
    | @cons _ v _ cs' h1 h2 =>
    cases x with
    | val u =>
      obtain ⟨ess, a1, a2⟩ := outAg_ok hback h2 (fun R hR => hm R hR) h
      exact ⟨ess, a1, by simpa [fillL] using a2⟩
    | sl es0 =>
      simp only [outL] at h
      split at h
      · rename_i es hf
        obtain ⟨hlen, h⟩ := h
        have hR := hm ⟨p + 4096 * (j + 1), es0, 1, [], v, blkL v⟩ (by simp [rootsS])
        obtain ⟨ess, a1, a2⟩ := outAg_ok hback h2 (fun R hR => hm R (by simp only [rootsS]; exact List.mem_cons_of_mem _ hR)) h
        exact ⟨es :: ess, .cons (hback _ hR es hf rfl rfl hlen) a1, by simpa [fillL] using a2⟩
      · exact h.elim
    | agg l => exact h1.1.elim
    | pt l => exact h1.1.elim
    | fn g l => exact h1.1.elim

end roots

/-- THE LAW: what the interpreter says of a body holds of the call. -/
theorem does_of_abody (hT : TTok P) (hm : P.follows .mixedOrders = true) {f : FuncId} {fn : Func} {c : Code} (hf : P.funcs[f]? = some fn) (hb : fn.body = some c) {D : List (Nat × List Nat)} (hdr : drawsOk D c = true) {args : List PV} {rs : RS} {outs : List PV}
    (h : abody (stdA P) D f fn c args (fun rs' outs' => rs' = rs ∧ outs' = outs)) : Does P f args rs outs := by
  intro w vs Fs hok
  unfold abody at h
  split at h
  · rename_i hcond
    obtain ⟨hn, hlen, hall⟩ := hcond
    have hsm : ∀ R ∈ rootsOf f args vs Fs, cls R.id < ioMax := fun R hR => by
      obtain ⟨p, _, h1, h2, _⟩ := root_cases hok hR
      rw [h1]; exact h2
    obtain ⟨M, hg⟩ := start_ok hok hsm hn hall rfl
    refine calls_of_wp hf hb ?_
    have hsz : (⟨vs⟩ : Array Value).size = vs.length := rfl
    rw [hsz]
    refine Code.wp_mono ?_ (awp_ok hT hm c hdr hg h)
    intro ex a' w' hq
    have fin : ∀ σ' M', G (envOf f w args vs Fs hsm) M' σ' a' w' → (match resultS (stdA P) σ' fn.results.toList with
        | some rs' => if vwIn (inout f) args rs' then outsS (stdA P) σ' args (ioDp f) (fun outs' => rs' = rs ∧ outs' = outs) (inout f) else False
        | none => False) → a'.defers = [] ∧ ∃ v, (results fn a'.tmps).run P w' = .ok v w' ∧ ∃ v0, Ending.returned v = .returned v0 ∧ Post P f args vs Fs w w' v0 rs outs := by
      intro σ' M' hg' hh
      refine ⟨hg'.defers, ?_⟩
      split at hh
      · rename_i rs' hrs
        split at hh
        rotate_left
        · exact hh.elim
        rename_i hvin
        have hroot : ∀ i b, (envOf f w args vs Fs hsm).lentB i b → ∃ R ∈ rootsOf f args vs Fs, b ∈ R.N ∧ R.id = i := by
          rintro i b ⟨q, hq, hq2⟩
          have hq : (rootAt f args vs Fs i).bind (fun R => (hdAt R.v).map fun q => (q.1, q.2.1, q.2.2, R.sz)) = some q := hq
          cases hr : rootAt f args vs Fs i with
          | none => rw [hr] at hq; cases hq
          | some R =>
            rw [hr] at hq
            simp only [Option.bind_some] at hq
            obtain ⟨h1, h2⟩ := rootAt_some hr
            refine ⟨R, h1, ?_, h2⟩
            have hO : (envOf f w args vs Fs hsm).ioO i = R.N.tail := by simp only [envOf, hr]
            rcases root_parts hok h1 with ⟨_, h3, _⟩ | ⟨b', o', c, e, cap, N', q1, q2, q3, q4, q5, q6, q7, q8⟩
            · rw [h3] at hq; cases hq
            · rw [q4] at hq; cases hq
              rw [q7]
              rcases hq2 with e | e
              · simp only at e; subst e; simp
              · rw [hO, q7] at e; simp only [List.tail_cons] at e; simp [e]
        have hsizes : ∀ R ∈ rootsOf f args vs Fs, ∀ es sz u io, σ'.files R.id = some (.row es sz u io) → hdAt R.v ≠ none → sz = R.sz := by
          intro R hR es sz u io hfile hne
          rcases root_parts hok hR with ⟨_, h3, _⟩ | ⟨b', o', c, e, cap, N', q1, q2, q3, q4, q5, q6, q7, q8⟩
          · exact absurd h3 hne
          · have hio : (envOf f w args vs Fs hsm).io R.id = some (b', o', R.es.length, R.sz) := by
              show (rootAt f args vs Fs R.id).bind _ = _
              rw [rootAt_of hok hR]; simp [q4]
            obtain ⟨⟨es2, u2, hf2, _⟩, _⟩ := hg'.io _ _ _ _ _ hio
            rw [hfile] at hf2; cases hf2; rfl
        have hbackz : ∀ R ∈ rootsOf f args vs Fs, ∀ es sz u, σ'.files R.id = some (.row es sz u true) → u = ruOf R.zs → es.length = R.es.length → Back1 w w' R es := fun R hR es sz u h1 h2 h3 => back_ok hok hsm hg' hR h1 h2 h3
        obtain ⟨v, N, r1, r2, r3, r4⟩ := results_ok (Feet := Feet f args vs Fs) (V := fun p o l v => p ∈ inout f ∧ ∃ u es, vs[p]? = some u ∧ args[p]? = some (.sl es) ∧ o + l ≤ es.length ∧ ViewOf w' (ioSz f) u es.length o l v) hT hg' hrs (fun id es sz u o l v hfile hdr hrv => by
          subst hrv
          have hvin2 : id ∈ inout f ∧ ∃ es, args[id]? = some (.sl es) := by
            simp only [vwIn, Bool.and_eq_true] at hvin
            refine ⟨by simpa using hvin.1, ?_⟩
            have h2 := hvin.2
            split at h2
            · rename_i es he; exact ⟨es, he⟩
            · cases h2
          have hpin := hvin2.1
          rcases hok.one with e | ⟨p, e⟩
          · rw [e] at hpin; simp at hpin
          have hpe : id = p := by rw [e] at hpin; simpa using hpin
          subst hpe
          have hpi := hok.io id hpin
          have hv : vs[id]? = some (vs[id]'(by rw [hok.len]; exact hpi.1)) := List.getElem?_eq_getElem _
          have hF : Fs[id]? = some (Fs[id]'(by rw [hok.lenF]; exact hpi.1)) := List.getElem?_eq_getElem _
          have hr : args[id]? = some (args[id]'hpi.1) := List.getElem?_eq_getElem _
          rw [e] at hh
          simp only [outsS] at hh
          split at hh
          · rename_i es0 harg
            split at hh
            rotate_left
            · exact hh.elim
            rename_i es1 sz1 u1 hfile1
            rw [hfile] at hfile1; cases hfile1
            split at hh
            rotate_left
            · exact hh.elim
            obtain ⟨hlen2, _, _⟩ := hh
            have hlen2 : es.length = es0.length := hlen2
            have hmem : (⟨id, es0, ioSz f, ioDp f, vs[id]'(by rw [hok.len]; exact hpi.1), Fs[id]'(by rw [hok.lenF]; exact hpi.1)⟩ : Root) ∈ rootsOf f args vs Fs := by
              simp only [rootsOf, e, harg, hv, hF, rootsP, List.mem_singleton]
            refine ⟨hpin, _, es0, hv, harg, ?_, ?_⟩
            · obtain ⟨_, _, _, _, h3, _⟩ := hdr
              omega
            · obtain ⟨a1, cap1, rfl, q1, q2, q3, q4⟩ := hdr
              refine ⟨a1, cap1, rfl, q1, by clear q4; omega, fun hc => ?_⟩
              obtain ⟨ea, hκ, c, e1, hw1, hsz⟩ := q4 hc
              have hb0 := hg'.iob _ _ _ _ _ hfile hκ
              obtain ⟨⟨b9, o9, n9, z9⟩, hq, _⟩ := hg'.lent _ _ hb0 hκ
              rcases root_parts hok hmem with ⟨_, h3, _⟩ | ⟨b', o', c2, e2, cap, N', w1, w2, w3, w4, w5, w6, w7, w8⟩
              · have hq' : (rootAt f args vs Fs id).bind (fun R => (hdAt R.v).map fun q => (q.1, q.2.1, q.2.2, R.sz)) = some (b9, o9, n9, z9) := hq
                have := rootAt_of hok hmem
                simp only at this h3
                rw [this] at hq'
                simp only [Option.bind_some, h3] at hq'
                cases hq'
              · have hio : (envOf f w args vs Fs hsm).io id = some (b', o', es0.length, ioSz f) := by
                  show (rootAt f args vs Fs id).bind _ = _
                  have := rootAt_of hok hmem
                  simp only at this w4
                  rw [this]; simp [w4]
                obtain ⟨⟨es6, u6, hf6, _⟩, i1, hoff, _⟩ := hg'.io _ _ _ _ _ hio
                rw [hfile] at hf6
                cases hf6
                simp only at w1
                refine ⟨b', o', _, _, c, e1, w1, w2, by rw [ea, hoff, i1], by rw [← i1]; exact hw1, by rw [← hoff]; exact hsz⟩
          · rename_i ls harg
            exfalso
            obtain ⟨es', he'⟩ := hvin2.2
            rw [harg] at he'
            cases he'
          · exact hh.elim) (fun b hb => hb) (fun i b hq => by
            obtain ⟨R, h1, h2, _⟩ := hroot i b hq
            exact .inr ⟨R, h1, h2⟩)
        have houts : rs' = rs ∧ ∃ ess, All2 (Back1 w w') (rootsOf f args vs Fs) ess ∧ outs = outsOf f args ess := by
          rcases hok.one with e | ⟨p, e⟩
          · rw [e] at hh
            obtain ⟨rfl, rfl⟩ := hh
            exact ⟨rfl, [], by simp only [rootsOf, e]; exact .nil, by simp only [outsOf, e]⟩
          · have hpin : p ∈ inout f := by rw [e]; simp
            have hpi := hok.io p hpin
            have hv : vs[p]? = some (vs[p]'(by rw [hok.len]; exact hpi.1)) := List.getElem?_eq_getElem _
            have hF : Fs[p]? = some (Fs[p]'(by rw [hok.lenF]; exact hpi.1)) := List.getElem?_eq_getElem _
            rw [e] at hh
            simp only [outsS] at hh
            split at hh
            · rename_i es0 harg
              split at hh
              rotate_left
              · exact hh.elim
              rename_i es sz u hfile
              split at hh
              rotate_left
              · exact hh.elim
              rename_i hu
              obtain ⟨hlen2, rfl, rfl⟩ := hh
              have hro : rootsOf f args vs Fs = [⟨p, es0, ioSz f, ioDp f, vs[p]'(by rw [hok.len]; exact hpi.1), Fs[p]'(by rw [hok.lenF]; exact hpi.1)⟩] := by
                simp only [rootsOf, e, harg, hv, hF, rootsP]
              have hu' : u = ruOf (ioDp f) := by
                revert hu
                cases u <;> cases ioDp f <;> simp [uOk, ruOf]
              refine ⟨rfl, [es], ?_, by simp only [outsOf, e, harg]; rfl⟩
              rw [hro]
              exact .cons (hbackz _ (by rw [hro]; simp) es sz u hfile hu' hlen2) .nil
            · rename_i ls harg
              rcases hok.shape p _ _ harg hv hpin with ⟨es', e1⟩ | ⟨ls', cs, e1, e2, e3⟩
              · cases e1
              · cases e1
                have hro : rootsOf f args vs Fs = rootsS p 0 ls cs := by simp only [rootsOf, e, harg, hv, hF, e2, rootsP]
                obtain ⟨ess, a1, a2⟩ := outAg_ok (w' := w') (p := p) (σ := σ') (j := 0) (ls := ls) (cs := cs) (fun R hR es h1 _ h3 h4 => hbackz R hR es 1 .free h1 (by rw [h3]; rfl) h4) e3 (fun R hR => by rw [hro]; exact hR) hh
                exact ⟨a2.1, ess, by rw [hro]; exact a1, by rw [← a2.2]; simp only [outsOf, e, harg]⟩
            · exact hh.elim
        obtain ⟨rfl, ess, ho1, ho2⟩ := houts
        refine ⟨v, r1, v, rfl, ⟨⟨N, r2, r3, r4⟩, ⟨ess, ho1, ho2⟩, fun b hb hno => ?_, hg'.size, hg'.os, hg'.tape, hg'.out⟩⟩
        refine hg'.frame b hb (fun i hi => ?_)
        obtain ⟨R, h1, h2, _⟩ := hroot i b hi
        exact hno R h1 h2
      · exact hh.elim
    cases ex with
    | normal => obtain ⟨M', σ', hg', hh⟩ := hq; exact fin σ' M' hg' hh
    | ret => obtain ⟨M', σ', hg', hh⟩ := hq; exact fin σ' M' hg' hh
    | exit i => obtain ⟨M', σ', hg', hh⟩ := hq; exact hh.elim
    | goto l => exact hq.elim
    | panic c => exact hq.elim
    | outgrown => exact hq.elim
  · exact h.elim
end Go.VAI
