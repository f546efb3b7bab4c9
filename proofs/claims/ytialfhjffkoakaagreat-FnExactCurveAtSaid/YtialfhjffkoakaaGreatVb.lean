import Derived.Test.YtialfhjffkoakaaGreatVa
import Derived.Laws.IdiomCopy
import Derived.Laws.Tables
import Derived.Laws.Slices
import Derived.Laws.MakeOwn
import Derived.Laws.Append
import Derived.Great.BuildSlice
import Derived.Laws.AppendOwn
namespace Go.VAI
variable {E : Env} {P : Program}

/-! ### Cells that are written -/

theorem splice_get {α : Type} {o : Nat} {xs l : List α} (h : o + xs.length ≤ l.length) (j : Nat) : (splice o xs l)[j]? = if j < o then l[j]? else if j < o + xs.length then xs[j - o]? else l[j]? := by
  unfold splice
  by_cases h1 : j < o
  · rw [if_pos h1, List.append_assoc, List.getElem?_append_left (by simp; omega), List.getElem?_take, if_pos h1]
  · rw [if_neg h1, List.append_assoc, List.getElem?_append_right (by simp; omega)]
    simp only [List.length_take, show min o l.length = o by omega]
    by_cases h2 : j < o + xs.length
    · rw [if_pos h2, List.getElem?_append_left (by omega)]
    · rw [if_neg h2, List.getElem?_append_right (by omega), List.getElem?_drop, show o + xs.length + (j - o - xs.length) = j by omega]

theorem splice_length {α : Type} {o : Nat} {xs l : List α} (h : o + xs.length ≤ l.length) : (splice o xs l).length = l.length := by
  unfold splice; simp; omega

theorem setCells_heap (b : Nat) : ∀ (vs : List Value) (o : Nat) (w : World) (c : Array Value) (t : TypeId) (fr : Nat × Nat), w.heap[b]? = some (.cells c t fr) → o + vs.length ≤ c.size →
    ∃ c', (w.setCells b o vs).heap[b]? = some (.cells c' t fr) ∧ c'.toList = splice o vs c.toList
  | [], o, w, c, t, fr, h, hl => ⟨c, h, by simp [splice]⟩
  | v :: vs, o, w, c, t, fr, h, hl => by
    simp only [List.length_cons] at hl
    have h1 : (w.setCell ⟨b, o, none⟩ v).heap[b]? = some (.cells (c.setIfInBounds o v) t fr) := by
      rw [setCell_eq_setRow w b o c t fr v h]
      exact setRow_heap w b c _ t fr h
    obtain ⟨c', h2, h3⟩ := setCells_heap b vs (o + 1) _ _ t fr h1 (by simp; omega)
    refine ⟨c', h2, ?_⟩
    rw [h3]
    apply List.ext_getElem?
    intro j
    rw [splice_get (by simp; omega), splice_get (by simp; omega)]
    simp only [Array.toList_setIfInBounds, List.getElem?_set, List.length_cons, Array.length_toList]
    rcases Nat.lt_trichotomy j o with hj | hj | hj
    · simp [hj, show j < o + 1 by omega, show ¬ o = j by omega]
    · subst hj
      simp [show j < c.size by omega]
    · simp only [show ¬ j < o by omega, show ¬ j < o + 1 by omega, if_false, show ¬ o = j by omega]
      by_cases hv : j < o + 1 + vs.length
      · rw [if_pos hv, if_pos (by omega), show j - o = (j - (o + 1)) + 1 by omega, List.getElem?_cons_succ]
      · rw [if_neg hv, if_neg (by omega)]

theorem setCells_other (b k : Nat) (hk : k ≠ b) : ∀ (vs : List Value) (o : Nat) (w : World) (c : Array Value) (t : TypeId) (fr : Nat × Nat), w.heap[b]? = some (.cells c t fr) → (w.setCells b o vs).heap[k]? = w.heap[k]?
  | [], _, _, _, _, _, _ => rfl
  | v :: vs, o, w, c, t, fr, h => by
    have h0 := setCell_eq_setRow w b o c t fr v h
    have h1 : (w.setCell ⟨b, o, none⟩ v).heap[b]? = some (.cells (c.setIfInBounds o v) t fr) := by rw [h0]; exact setRow_heap w b c _ t fr h
    rw [World.setCells, setCells_other b k hk vs (o + 1) _ _ t fr h1, h0, setRow_other w b k _ hk]

theorem setCells_rest (b : Nat) : ∀ (vs : List Value) (o : Nat) (w : World), (w.setCells b o vs).heap.size = w.heap.size ∧ (w.setCells b o vs).os = w.os ∧ TapeLe w (w.setCells b o vs) ∧ (w.setCells b o vs).output = w.output
  | [], _, _ => ⟨rfl, rfl, TapeLe.rfl', rfl⟩
  | v :: vs, o, w => by
    obtain ⟨h1, h2, h3, h4⟩ := setCells_rest b vs (o + 1) (w.setCell ⟨b, o, none⟩ v)
    exact ⟨by rw [World.setCells, h1]; simp, by rw [World.setCells, h2]; rfl, by rw [World.setCells]; exact h3, by rw [World.setCells, h4]; rfl⟩

theorem cell_of {w : World} {b o : Nat} {c : Array Value} {t : TypeId} {fr : Nat × Nat} (h : w.heap[b]? = some (.cells c t fr)) : w.cell? ⟨b, o, none⟩ = c[o]? := by
  unfold World.cell?; simp [h]

theorem frozen_of {w : World} {b o : Nat} {c : Array Value} {t : TypeId} (h : w.heap[b]? = some (.cells c t (0, 0))) : w.frozen? ⟨b, o, none⟩ = false := by
  unfold World.frozen?; simp [h]

theorem run_storeAt (hT : TTok P) {t : Nat} {i : TI} (ht : tt t = some i) {w : World} {b o : Nat} {c : Array Value} {e : TypeId} (hb : w.heap[b]? = some (.cells c e (0, 0))) {v : Value} {cs : List Value} (hv : v.cells = ⟨cs⟩)
    (hl : cs.length = i.size) (hs : o + cs.length ≤ c.size) (h1 : ∀ v ∈ cs, v.oneCell' = true) : (Instr.storeAt t (.pointer (some ⟨b, o, none⟩)) v).run P w = .ok () (w.setCells b o cs) := by
  obtain ⟨inf, z, cz, hi, hsz, _⟩ := (hT _ _ ht).info
  have hst := run_storeCells_cells (P := P) b o cs 0 w (fun j hj => by rw [cell_of hb]; simp; omega) (fun j _ => frozen_of hb) h1
  simp [Instr.storeAt, Instr.sureAddr, storeVar, sizeOf, typeInfo, hi, hv, hl, hsz]
  simpa using hst

theorem run_loadAt (hT : TTok P) {t : Nat} {i : TI} (ht : tt t = some i) {w : World} {b o : Nat} {cs : List Value} (hl : cs.length = i.size) (hc : ∀ (j : Nat) (v : Value), cs[j]? = some v → w.cell? ⟨b, o + j, none⟩ = some v) :
    (i.ag = true → (Instr.loadAt t (.pointer (some ⟨b, o, none⟩))).run P w = .ok (.agg ⟨cs⟩) w) ∧ (i.ag = false → ∃ v, cs = [v] ∧ (Instr.loadAt t (.pointer (some ⟨b, o, none⟩))).run P w = .ok v w) := by
  obtain ⟨inf, z, cz, hi, hsz, _, _, _, hcz, _, _, _, hone⟩ := (hT _ _ ht).info
  obtain ⟨d, hd, h1, h2, _⟩ := (hT _ _ ht).und
  constructor
  · intro hag
    obtain ⟨fs, rfl, fs', hk⟩ := h1 hag
    have hl' := run_loadCells_list (P := P) w ⟨b, o, none⟩ cs (fun j v hj => by
      have : (⟨b, o, none⟩ : Addr).add j = ⟨b, o + j, none⟩ := by unfold Addr.add; split <;> simp_all
      rw [this]; exact hc j v hj)
    rw [hl, ← hsz] at hl'
    simp [Instr.loadAt, Instr.sureAddr, loadVar, isAgg, run_underlying hd, sizeOf, typeInfo, hi, hl']
  · intro hag
    obtain ⟨v0, hv0, _⟩ := hone hag
    have hlen : cs.length = 1 := by rw [hl, ← hcz, hv0]; rfl
    match cs, hlen with
    | [v], _ =>
      refine ⟨v, rfl, ?_⟩
      have hv := hc 0 v rfl
      obtain ⟨n1, n2⟩ := h2 hag
      have hag' : (isAgg t).run P w = .ok false w := by
        simp only [isAgg, Sem.run_bind, run_underlying hd, Result.andThen_ok]
        cases d <;> first | rfl | exact absurd rfl (n1 _) | exact absurd rfl (n2 _ _)
      simp at hv
      simp [Instr.loadAt, Instr.sureAddr, loadVar, hag', hv]

/-! ### Leaves -/

theorem one_of_rep {w : World} {r : PV} {v : Value} {F : List Nat} (h : Rep w r v F) (hn : notAgg r = true) : v.oneCell' = true := by
  cases h with
  | val v h => exact h
  | agg h => simp [notAgg] at hn
  | _ => rfl

theorem leaves_rep {w : World} {r : PV} {v : Value} {F : List Nat} (h : Rep w r v F) (hn : (leaves r).all notAgg = true) : ∃ cs, v.cells = ⟨cs⟩ ∧ RepL w (leaves r) cs F ∧ ∀ v ∈ cs, v.oneCell' = true := by
  have one : ∀ {r : PV} {v : Value} {F : List Nat}, Rep w r v F → notAgg r = true → ∃ cs, v.cells = ⟨cs⟩ ∧ RepL w [r] cs F ∧ ∀ v ∈ cs, v.oneCell' = true := by
    intro r v F h hn
    have h1 := one_of_rep h hn
    exact ⟨[v], cells_one h1, by simpa using RepL.cons h .nil, by simpa using h1⟩
  cases r with
  | agg ls =>
    cases h with
    | agg h =>
      rename_i cs
      refine ⟨cs, rfl, h, ?_⟩
      simp only [leaves, List.all_eq_true] at hn
      have : ∀ (ls : List PV) (cs : List Value) (F : List Nat), RepL w ls cs F → (∀ x ∈ ls, notAgg x = true) → ∀ v ∈ cs, v.oneCell' = true := by
        intro ls
        induction ls with
        | nil => intro cs F h _; cases h; simp
        | cons x xs ih =>
          intro cs F h hv
          cases h with
          | cons h t =>
            intro u hu
            rcases List.mem_cons.1 hu with rfl | hu
            · exact one_of_rep h (hv x (by simp))
            · exact ih _ _ t (fun y hy => hv y (by simp [hy])) u hu
      exact this _ _ _ h hn
  | val v0 => exact one h rfl
  | sl es => exact one h rfl
  | pt ls => exact one h rfl
  | fn f ls => exact one h rfl

theorem live_one {M : Mp} {σ : St} {w : World} {s : Slot} {v : Value} (hl : liveS σ s = true) (h : Cl1 E M σ w s v) : v.oneCell' = true ∧ noTup s = true := by
  cases s with
  | pv r bs =>
    obtain ⟨F, h1, _⟩ := h
    have hn : notAgg r = true := by cases r <;> first | rfl | simp [liveS] at hl
    exact ⟨one_of_rep h1 hn, by cases r <;> first | rfl | simp [liveS] at hl⟩
  | own id sub =>
    simp only [liveS] at hl
    split at hl
    · rename_i es sz u io hf
      refine ⟨?_, rfl⟩
      cases sub with
      | none => obtain ⟨a, cap, rfl, _⟩ := h _ _ _ _ hf; rfl
      | some p => obtain ⟨o, l⟩ := p; obtain ⟨a, cap, rfl, _⟩ := h _ _ _ _ hf; rfl
    · cases hl
  | ref id o =>
    simp only [liveS] at hl
    split at hl
    · rename_i ls hf; rw [h _ hf]; exact ⟨rfl, rfl⟩
    · cases hl
  | rref id i o =>
    simp only [liveS] at hl
    split at hl
    · rename_i es sz u io hf; rw [h _ _ _ _ hf]; exact ⟨rfl, rfl⟩
    · cases hl
  | _ => simp [liveS] at hl

theorem sleaves_cl {M : Mp} {σ : St} {w : World} {s : Slot} {v : Value} (h : ClS E M σ w s v) (hl : (sleaves s).all (liveS σ) = true) :
    ∃ cs, v.cells = ⟨cs⟩ ∧ All2 (fun s v => Cl1 E M σ w s v ∧ v.oneCell' = true ∧ noTup s = true) (sleaves s) cs := by
  have one : ∀ {s : Slot}, Cl1 E M σ w s v → liveS σ s = true → ∃ cs, v.cells = ⟨cs⟩ ∧ All2 (fun s v => Cl1 E M σ w s v ∧ v.oneCell' = true ∧ noTup s = true) [s] cs := by
    intro s h hl
    have h1 := live_one hl h
    exact ⟨[v], cells_one h1.1, .cons ⟨h, h1⟩ .nil⟩
  cases s with
  | pv r bs =>
    cases r with
    | agg ls =>
      obtain ⟨F, h1, h2⟩ := h
      cases h1 with
      | agg h1 =>
        rename_i cs
        refine ⟨cs, rfl, ?_⟩
        simp only [sleaves] at hl ⊢
        have : ∀ (ls : List PV) (cs : List Value) (F : List Nat), RepL w ls cs F → Good E M w bs F → (ls.map (Slot.pv · bs)).all (liveS σ) = true →
            All2 (fun s v => Cl1 E M σ w s v ∧ v.oneCell' = true ∧ noTup s = true) (ls.map (Slot.pv · bs)) cs := by
          intro ls
          induction ls with
          | nil => intro cs F h _ _; cases h; exact .nil
          | cons x xs ih =>
            intro cs F h hG hl
            cases h with
            | cons h t =>
              simp only [List.map_cons, List.all_cons, Bool.and_eq_true] at hl
              have hc : Cl1 E M σ w (.pv x bs) _ := ⟨_, h, hG.mono (fun b hb => by simp [hb])⟩
              exact .cons ⟨hc, live_one hl.1 hc⟩ (ih _ _ t (hG.mono (fun b hb => by simp [hb])) hl.2)
        exact this _ _ _ h1 h2 hl
    | val v0 => exact one h (by simpa [sleaves] using hl)
    | sl es => exact one h (by simpa [sleaves] using hl)
    | pt ls => exact one h (by simpa [sleaves] using hl)
    | fn f ls => exact one h (by simpa [sleaves] using hl)
  | ag ls =>
    obtain ⟨cs, rfl, h2⟩ := h
    refine ⟨cs, rfl, ?_⟩
    simp only [sleaves, List.all_eq_true] at hl ⊢
    have := h2.imp_mem (g := fun x => x) (q := fun s v => Cl1 E M σ w s v ∧ v.oneCell' = true ∧ noTup s = true) (fun s hs v hc => ⟨hc, live_one (hl s hs) hc⟩)
    simpa using this
  | own id sub => exact one h (by simpa [sleaves] using hl)
  | ref id o => exact one h (by simpa [sleaves] using hl)
  | rref id i o => exact one h (by simpa [sleaves] using hl)
  | lf id i o yl => exact one h (by simpa [sleaves] using hl)
  | _ => simp [sleaves, liveS] at hl

/-! ### Slots as values -/

theorem RepCells.get {w : World} {b : Nat} : ∀ {xs : List PV} {o : Nat} {F : List Nat}, RepCells w b o xs F → ∀ {j : Nat} {x : PV}, xs[j]? = some x →
    ∃ v G, w.cell? ⟨b, o + j, none⟩ = some v ∧ v.oneCell' = true ∧ Rep w x v G ∧ ∀ c ∈ G, c ∈ F
  | [], _, _, _, j, x, h => by simp at h
  | y :: ys, o, _, .cons (F := F) (G := G) hc h1 h t, 0, x, hx => by
    simp at hx; subst hx
    exact ⟨_, F, by simpa using hc, h1, h, fun c hc => by simp [hc]⟩
  | y :: ys, o, _, .cons (F := F) (G := G) hc h1 h t, j + 1, x, hx => by
    obtain ⟨v, G', k1, k2, k3, k4⟩ := t.get (by simpa using hx)
    exact ⟨v, G', by rw [show o + (j + 1) = o + 1 + j by omega]; exact k1, k2, k3, fun c hc => by simp [k4 c hc]⟩

/-- What the elements touch. -/
theorem GoodU.good {M : Mp} {w : World} {id sz : Nat} {es : List PV} {u : RU} {F : List Nat} (h : GoodU E M w id sz es u F) : Good E M w (id :: rubs u) F := by
  cases u with
  | free => simp only [GoodU] at h; subst h; intro b hb; simp at hb
  | sh bs => exact Good.more h (fun b hb => by simp [rubs, hb])
  | deep z0 zs => exact fun b hb => ⟨(h.2 b hb).2.1, .inr ⟨id, by simp, (h.2 b hb).1⟩⟩

theorem content_rep {M : Mp} {σ : St} {a : Act} {w : World} (hg : G E M σ a w) {id : Nat} {sub : Option (Nat × Nat)} {es : List PV} (h : content (stdA P) σ id sub = some es) {v : Value} (hc : Cl1 E M σ w (.own id sub) v) :
    ∃ F, Rep w (.sl es) v F ∧ Good E M w (refs1 σ (.own id sub)) F := by
  unfold content at h
  split at h
  · rename_i es0 sz u io hf
    have hr : refs1 σ (.own id sub) = id :: rubs u := by simp [refs1, hf]
    rw [hr]
    split at h
    · cases h
      have := Hdr.rep hg hf (hc _ _ _ _ hf)
      rwa [sub_full] at this
    · rename_i o l
      cases h
      exact Hdr.rep hg hf (hc _ _ _ _ hf)
  · cases h

theorem pv1_rep {M : Mp} {σ : St} {a : Act} {w : World} (hg : G E M σ a w) {s : Slot} {r : PV} (h : pv1 (stdA P) σ s = some r) {v : Value} (hc : Cl1 E M σ w s v) : ∃ F, Rep w r v F ∧ Good E M w (refs1 σ s) F := by
  unfold pv1 at h
  split at h
  · cases h; exact hc
  · rename_i id sub
    split at h
    · cases h; rename_i es he; exact content_rep hg he hc
    · cases h
  · rename_i id i o ys
    split at h
    · rename_i es sz u io hf
      cases h
      obtain ⟨⟨x, h1, h2⟩, h3⟩ := hc _ _ _ _ hf
      obtain ⟨_, _, _, F, q3, q4⟩ := hg.files _ _ hf
      obtain ⟨_, G, g1, g2⟩ := q3.get h1
      obtain ⟨v', G', e1, _, e3, e4⟩ := g1.get h2
      rw [h3] at e1; cases e1
      refine ⟨G', e3, ?_⟩
      have hr : refs1 σ (.lf id i o ys) = id :: rubs u := by simp [refs1, hf]
      rw [hr]
      exact q4.good.mono (fun b hb => g2 b (e4 b hb))
    · cases h
  · cases h

theorem optAll_rep {M : Mp} {w : World} {f : Slot → Option PV} {g : Slot → List Nat} {C : Slot → Value → Prop} (hf : ∀ s r v, f s = some r → C s v → ∃ F, Rep w r v F ∧ Good E M w (g s) F) :
    ∀ {ls : List Slot} {xs : List PV} {cs : List Value}, optAll f ls = some xs → All2 C ls cs → ∃ F, RepL w xs cs F ∧ Good E M w (ls.flatMap g) F
  | [], xs, cs, h, hc => by cases hc; simp [optAll] at h; subst h; exact ⟨[], .nil, fun b hb => by simp at hb⟩
  | s :: ls, xs, cs, h, hc => by
    cases hc with
    | cons h1 t =>
      simp only [optAll] at h
      split at h
      · rename_i y hy
        split at h
        · rename_i ys hys
          cases h
          obtain ⟨F, hF, gF⟩ := hf _ _ _ hy h1
          obtain ⟨F', hF', gF'⟩ := optAll_rep hf hys t
          refine ⟨F ++ F', .cons hF hF', fun b hb => ?_⟩
          rcases List.mem_append.1 hb with hb | hb
          · exact gF.more (fun i hi => by simp [hi]) b hb
          · refine gF'.more (fun i hi => ?_) b hb
            simp only [List.mem_flatMap] at hi ⊢
            obtain ⟨s, hs, hi⟩ := hi
            exact ⟨s, by simp [hs], hi⟩
        · cases h
      · cases h

end Go.VAI

namespace Go.VAI
variable {E : Env} {P : Program}

theorem All2.one {α : Type} {p : α → Value → Prop} {xs : List α} {ys : List Value} (h : All2 p xs ys) {q : Value → Prop} (hq : ∀ x ∈ xs, ∀ y, p x y → q y) : ∀ y ∈ ys, q y := by
  induction h with
  | nil => simp
  | cons h t ih =>
    intro y hy
    rcases List.mem_cons.1 hy with rfl | hy
    · exact hq _ (by simp) _ h
    · exact ih (fun x hx => hq x (by simp [hx])) y hy

theorem optAll_mem {α β : Type} {f : α → Option β} : ∀ {ls : List α} {xs : List β}, optAll f ls = some xs → ∀ s ∈ ls, (f s).isSome = true
  | [], _, _, s, hs => by simp at hs
  | x :: ls, xs, h, s, hs => by
    simp only [optAll] at h
    split at h
    · rename_i y hy
      split at h
      · rename_i ys hys
        rcases List.mem_cons.1 hs with rfl | hs
        · rw [hy]; rfl
        · exact optAll_mem hys s hs
      · cases h
    · cases h

theorem All2.cells {w : World} {b : Nat} {c : Array Value} {t : TypeId} {fr : Nat × Nat} (h : w.heap[b]? = some (.cells c t fr)) (o : Nat) (j : Nat) (v : Value) (hj : (c.toList.drop o)[j]? = some v) : w.cell? ⟨b, o + j, none⟩ = some v := by
  rw [cell_of h]
  simpa [List.getElem?_drop] using hj

theorem cell_pt {M : Mp} {σ : St} {a : Act} {w : World} (hg : G E M σ a w) {id : Nat} {ls : List Slot} (hf : σ.files id = some (.cell ls)) (o : Nat) {xs : List PV} (hx : optAll (pv1 (stdA P) σ) (ls.drop o) = some xs) :
    ∃ F, Rep w (.pt xs) (.pointer (some ⟨M.blk id, o, none⟩)) F ∧ Good E M w (id :: ls.flatMap (refs1 σ)) F := by
  obtain ⟨k1, c, e, k2, k3⟩ := hg.files _ _ hf
  have k4 := k3.drop o
  obtain ⟨F, hF, gF⟩ := optAll_rep (E := E) (M := M) (f := pv1 (stdA P) σ) (g := refs1 σ) (C := fun s v => Cl1 E M σ w s v ∧ v.oneCell' = true ∧ noTup s = true ∨ s = .dead)
    (fun s r v hr hc => by
      rcases hc with hc | rfl
      · exact pv1_rep hg hr hc.1
      · simp [pv1] at hr) hx k4
  have h1 := k4.one (q := fun v => v.oneCell' = true) (fun s hs v hc => by
    rcases hc with hc | rfl
    · exact hc.2.1
    · have := optAll_mem hx _ hs; simp [pv1] at this)
  refine ⟨M.blk id :: F, .pt (hF.cells o h1 (All2.cells k2 o)), fun b hb => ?_⟩
  rcases List.mem_cons.1 hb with rfl | hb
  · exact ⟨(hg.own _ _ k1), .inr ⟨id, by simp, k1⟩⟩
  · refine gF.more (fun i hi => ?_) b hb
    simp only [List.mem_flatMap, List.mem_cons] at hi ⊢
    obtain ⟨s, hs, hi⟩ := hi
    exact .inr ⟨s, List.mem_of_mem_drop hs, hi⟩

theorem pv2_rep {M : Mp} {σ : St} {a : Act} {w : World} (hg : G E M σ a w) {s : Slot} {r : PV} (h : pv2 (stdA P) σ s = some r) {v : Value} (hc : Cl2 E M σ w s v) : ∃ F, Rep w r v F ∧ Good E M w (refs2 σ s) F := by
  cases s with
  | ag ls =>
    simp only [pv2] at h
    split at h
    · rename_i xs hx
      cases h
      obtain ⟨cs, rfl, hc⟩ := hc
      obtain ⟨F, hF, gF⟩ := optAll_rep (E := E) (M := M) (fun s r v hr hc => pv1_rep hg hr hc) hx hc
      exact ⟨F, .agg hF, gF⟩
    · cases h
  | ref id o =>
    simp only [pv2] at h
    split at h
    · rename_i ls hf
      split at h
      · rename_i xs hx
        cases h
        obtain ⟨F, hF, gF⟩ := cell_pt hg hf o hx
        rw [hc _ hf]
        exact ⟨F, hF, by simpa [refs2, hf] using gF⟩
      · cases h
    · cases h
  | pv r0 bs => exact pv1_rep (P := P) hg (s := .pv r0 bs) h hc
  | own id sub => exact pv1_rep (P := P) hg (s := .own id sub) h hc
  | rref id i o => simp [pv2, pv1] at h
  | lf id i o yl => exact pv1_rep (P := P) hg (s := .lf id i o yl) h hc
  | clo f ls => simp [pv2, pv1] at h
  | tup ls => simp [pv2, pv1] at h
  | undef => simp [pv2, pv1] at h
  | dead => simp [pv2, pv1] at h

theorem toPV_rep {M : Mp} {σ : St} {a : Act} {w : World} (hg : G E M σ a w) {s : Slot} {r : PV} (h : toPV (stdA P) σ s = some r) {v : Value} (hc : ClS E M σ w s v) : ∃ F, Rep w r v F ∧ Good E M w (refsOf σ s) F := by
  cases s with
  | clo f ls =>
    simp only [toPV] at h
    split at h
    · split at h
      · rename_i xs hx
        cases h
        obtain ⟨cs, rfl, hc⟩ := hc
        obtain ⟨F, hF, gF⟩ := optAll_rep (E := E) (M := M) (fun s r v hr hc => pv2_rep hg hr (Cl2.of1 hc)) hx hc
        exact ⟨F, .fn hF, gF⟩
      · cases h
    · cases h
  | pv r0 bs => exact pv2_rep (P := P) hg (s := .pv r0 bs) h hc
  | ag ls => exact pv2_rep (P := P) hg (s := .ag ls) h hc
  | own id sub => exact pv2_rep (P := P) hg (s := .own id sub) h hc
  | ref id i => exact pv2_rep (P := P) hg (s := .ref id i) h hc
  | rref id i o => simp [toPV, pv2, pv1] at h
  | lf id i o yl => exact pv2_rep (P := P) hg (s := .lf id i o yl) h hc
  | tup ls => simp [toPV, pv2, pv1] at h
  | undef => simp [toPV, pv2, pv1] at h
  | dead => simp [toPV, pv2, pv1] at h

/-! ### Operations that read -/

section ops
variable {M : Mp} {σ : St} {a : Act} {w : World} {o : Oper} {K : St → Prop} {Q : Exit → Act → World → Prop}

theorem ofSleaves_one {y s : Slot} (h : ofSleaves false [y] = some s) : s = y := by
  simp only [ofSleaves, Bool.false_eq_true, if_false] at h
  split at h
  · cases h; rfl
  · cases h

theorem op_load (hT : TTok P) (hg : G E M σ a w) (hd : o.dst.all (fun d => Nat.blt d σ.n) = true) {t : Nat} {x : Operand} (hop : o.op = .load t x) {i : TI} (ht : tt t = some i)
    (h : loadS (stdA P) σ i (eval σ x) (fun s => K (putO σ o.dst s))) : o.wp P a w (Nx E K) Q := by
  have hx := eval_cl hg x
  -- of a value's cells
  have fin : ∀ (b p : Nat) (xs : List PV) (F : List Nat) (bs : List Nat), a.eval x = .pointer (some ⟨b, p, none⟩) → RepCells w b p xs F → Good E M w bs F → xs.length = i.size → ∀ r, ofLeaves i.ag xs = some r →
      K (putO σ o.dst (mkpv r bs)) → o.wp P a w (Nx E K) Q := by
    intro b p xs F bs hv hr hG hl r hrr hK
    obtain ⟨vs, h1, h2, h3, h4⟩ := hr.values
    obtain ⟨l1, l2⟩ := run_loadAt (P := P) hT ht (cs := vs) (by omega) h4
    cases hag : i.ag with
    | true =>
      simp only [ofLeaves, hag, if_true] at hrr
      cases hrr
      exact wp_val (v := .agg ⟨vs⟩) (w' := w) (by simp [execOp, hop, hv, l1 hag]) (nx_put hg hd (ClS.of1 (mkpv_cl ⟨F, .agg h1, hG⟩)) hK)
    | false =>
      obtain ⟨v, rfl, l2'⟩ := l2 hag
      simp only [ofLeaves, hag] at hrr
      match xs, h1 with
      | [y], .cons (F := F1) (G := G1) hy t =>
        simp at hrr
        subst hrr
        cases t
        simp at hG
        exact wp_val (v := v) (w' := w) (by simp [execOp, hop, hv, l2']) (nx_put hg hd (ClS.of1 (mkpv_cl ⟨F1, hy, hG⟩)) hK)
  unfold loadS at h
  split at h
  · rename_i id p he
    rw [he] at hx
    split at h
    · rename_i ls hf
      split at h
      · rename_i hle
        split at h
        · rename_i s hs
          obtain ⟨k1, c, e, k2, k3⟩ := hg.files _ _ hf
          have hv := hx _ hf
          have hcl : c.toList.length = ls.length := k3.length.symm
          have k4 := (k3.drop p).take i.size
          have k5 : All2 (Cl1 E M σ w) (prt p i.size ls) ((c.toList.drop p).take i.size) := by
            have := k4.imp (g := fun x => x) (q := Cl1 E M σ w) (fun s v hc => by
              rcases hc with hc | rfl
              · exact hc.1
              · exact trivial)
            simpa [prt] using this
          obtain ⟨l1, l2⟩ := run_loadAt (P := P) (w := w) (b := M.blk id) (o := p) hT ht (cs := (c.toList.drop p).take i.size) (by simp at hcl ⊢; omega) (fun j v hj => by
            rw [List.getElem?_take] at hj
            split at hj
            · exact All2.cells k2 p j v hj
            · cases hj)
          cases hag : i.ag with
          | true =>
            simp only [ofSleaves, hag, if_true] at hs
            cases hs
            exact wp_val (v := .agg ⟨(c.toList.drop p).take i.size⟩) (w' := w) (by simp [execOp, hop, hv, l1 hag]) (nx_put hg hd (s := .ag (prt p i.size ls)) ⟨_, rfl, k5⟩ h)
          | false =>
            obtain ⟨v, hv1, l2'⟩ := l2 hag
            rw [hv1] at k5
            rw [hag] at hs
            generalize prt p i.size ls = xs at k5 hs
            match xs, k5 with
            | [y], .cons hy _ =>
              have := ofSleaves_one hs
              subst this
              exact wp_val (v := v) (w' := w) (by simp [execOp, hop, hv, l2']) (nx_put hg hd (ClS.of1 hy) h)
        · exact h.elim
      · exact h.elim
    · exact h.elim
  · rename_i id ix p he
    rw [he] at hx
    split at h
    · rename_i es sz u io hf
      obtain ⟨y, hy, h⟩ := h
      split at h
      · rename_i hle
        split at h
        · rename_i r hr
          obtain ⟨k0, k1, k2, F, k3, k4⟩ := hg.files _ _ hf
          obtain ⟨l1, G1, l2, l3⟩ := k3.get hy
          obtain ⟨G2, m1, m2⟩ := l2.drop p (by omega)
          obtain ⟨G3, m3, m4⟩ := m1.take i.size
          have hgood : Good E M w (id :: rubs u) G3 := k4.good.mono (fun b hb => l3 b (m2 b (m4 b hb)))
          have hxv := hx _ _ _ _ hf
          unfold hdrK at h
          split at h
          · rename_i ys hdp
            split at h
            · rename_i hone
              obtain ⟨vs, q1, q2, q3, q4⟩ := m3.values
              have hvl : vs.length = i.size := by rw [q2]; simp; omega
              obtain ⟨_, l2'⟩ := run_loadAt (P := P) hT ht (cs := vs) hvl q4
              have hag : i.ag = false := by
                cases hb : i.ag with
                | false => rfl
                | true => rw [hb] at hr; simp [ofLeaves] at hr
              obtain ⟨v, rfl, l3'⟩ := l2' hag
              have hleaf : (leaves y)[p]? = some (.sl ys) := by
                have hp : p < (leaves y).length := by omega
                have e : prt p 1 (leaves y) = [(leaves y)[p]'hp] := by unfold prt; rw [List.drop_eq_getElem_cons hp, List.take_succ_cons, List.take_zero]
                rw [hag, hone, e] at hr
                rw [List.getElem?_eq_getElem hp]
                exact hr
              refine wp_val (v := v) (w' := w) (by simp [execOp, hop, hxv, l3']) (nx_put hg hd (ClS.of1 (s := .lf id ix p ys) (fun es' sz' u' io' hf' => ?_)) h)
              rw [hf] at hf'; cases hf'
              exact ⟨⟨y, hy, hleaf⟩, q4 0 v rfl⟩
            · exact h.elim
          · exact fin _ _ _ G3 (id :: rubs u) hxv m3 hgood (by simp; omega) _ hr h
        · exact h.elim
      · exact h.elim
    · exact h.elim
  · rename_i ls bs he
    rw [he] at hx
    split at h
    · rename_i hle
      split at h
      · rename_i r hr
        obtain ⟨F, h1, h2⟩ := hx
        generalize hv : a.eval x = v at h1
        cases h1 with
        | pt h1 =>
          obtain ⟨G3, m3, m4⟩ := h1.take i.size
          exact fin _ _ _ G3 bs hv m3 (h2.mono (fun b hb => by simp [m4 b hb])) (by simp; omega) r (by simpa [prt] using hr) h
      · exact h.elim
    · exact h.elim
  · exact h.elim

theorem fieldOf_some {t : Nat} {i : TI} (hT : TTok P) (ht : tt t = some i) {f off ft : Nat} (h : fieldOf i f = some (off, ft)) : ∃ fields fd, P.underlying t = some (.struct fields) ∧ fields[f]? = some fd ∧ fd.offset = off ∧ fd.type = ft := by
  unfold fieldOf at h
  split at h
  · rename_i fs hk
    obtain ⟨d, hd, _, _, _, hst, _⟩ := (hT _ _ ht).und
    obtain ⟨fields, rfl, hfs, _⟩ := hst _ hk
    rw [hfs, List.getElem?_map] at h
    cases hq : fields.toList[f]? with
    | none => simp [hq] at h
    | some fd => simp [hq] at h; exact ⟨fields, fd, hd, by simpa using hq, h.1, h.2⟩
  · cases h


theorem op_fieldAddr (hT : TTok P) (hg : G E M σ a w) (hd : o.dst.all (fun d => Nat.blt d σ.n) = true) {t : Nat} {x : Operand} {f : Nat} (hop : o.op = .fieldAddr t x f) {i : TI} (ht : tt t = some i) (hlive : liveS σ (eval σ x) = true) {s : Slot}
    (hs : fieldAddrS i (eval σ x) f = some s) (h : K (putO σ o.dst s)) : o.wp P a w (Nx E K) Q := by
  have hx := eval_cl hg x
  unfold fieldAddrS at hs
  split at hs
  · rename_i off ft hfo
    split at hs
    · rename_i j hj
      split at hs
      · cases hs
      · rename_i hz
        obtain ⟨fields, fd, hu, hfd, rfl, rfl⟩ := fieldOf_some hT ht hfo
        obtain ⟨inf, z, cz, hi, hsz, _⟩ := (hT _ _ hj).info
        have run : ∀ b p : Nat, a.eval x = .pointer (some ⟨b, p, none⟩) → (execOp a.eval o).run P w = .ok (.value (.pointer (some ⟨b, p + fd.offset, none⟩))) w := by
          intro b p hv
          have hadd : (⟨b, p, none⟩ : Addr).add fd.offset = ⟨b, p + fd.offset, none⟩ := by unfold Addr.add; split <;> simp_all
          have hz' : ¬ inf.size = 0 := by rw [hsz]; exact hz
          simp [execOp, hop, hv, Instr.fieldAt, run_underlying hu, hfd, Instr.sureAddr, fieldPlace, sizeOf, typeInfo, hi, hz', hadd]
        split at hs
        · rename_i id p he
          cases hs
          rw [he] at hx
          rw [he] at hlive
          simp only [liveS] at hlive
          split at hlive
          · rename_i ls hf
            refine wp_val (run _ _ (hx _ hf)) (nx_put hg hd (s := .ref id (p + fd.offset)) (fun ls' hf' => rfl) h)
          · cases hlive
        · rename_i id ix p he
          cases hs
          rw [he] at hx
          rw [he] at hlive
          simp only [liveS] at hlive
          split at hlive
          · rename_i es sz u io hf
            refine wp_val (run _ _ (hx _ _ _ _ hf)) (nx_put hg hd (s := .rref id ix (p + fd.offset)) (fun es' sz' u' io' hf' => ?_) h)
            rw [hf] at hf'; cases hf'
            simp [Nat.add_assoc]
          · cases hlive
        · rename_i ls bs he
          rw [he] at hx
          split at hs
          · rename_i hle
            cases hs
            obtain ⟨F, h1, h2⟩ := hx
            generalize hv : a.eval x = v at h1
            cases h1 with
            | pt h1 =>
              obtain ⟨G1, m1, m2⟩ := h1.drop fd.offset hle
              refine wp_val (run _ _ hv) (nx_put hg hd (s := .pv (.pt (ls.drop fd.offset)) bs) ⟨_, .pt m1, h2.mono (fun b hb => ?_)⟩ h)
              rcases List.mem_cons.1 hb with rfl | hb
              · simp
              · simp [m2 b hb]
          · cases hs
        · cases hs
    · cases hs
  · cases hs

theorem part_run (hT : TTok P) {t : Nat} {i : TI} (ht : tt t = some i) {c : List Value} {off : Nat} (hle : off + i.size ≤ c.length) :
    (i.ag = true → (Go.part t ⟨c⟩ off).run P w = .ok (.agg ⟨prt off i.size c⟩) w) ∧ (i.ag = false → ∃ v, prt off i.size c = [v] ∧ (Go.part t ⟨c⟩ off).run P w = .ok v w) := by
  obtain ⟨inf, z, cz, hi, hsz, _, _, _, hcz, _, _, _, hone⟩ := (hT _ _ ht).info
  obtain ⟨d, hd, h1, h2, _⟩ := (hT _ _ ht).und
  constructor
  · intro hag
    obtain ⟨fs, rfl, fs', hk⟩ := h1 hag
    simp [Go.part, isAgg, run_underlying hd, sizeOf, typeInfo, hi, prt, hsz]
  · intro hag
    obtain ⟨v0, hv0, _⟩ := hone hag
    have hs1 : i.size = 1 := by rw [← hcz, hv0]; rfl
    obtain ⟨n1, n2⟩ := h2 hag
    have hag' : (isAgg t).run P w = .ok false w := by
      simp only [isAgg, Sem.run_bind, run_underlying hd, Result.andThen_ok]
      cases d <;> first | rfl | exact absurd rfl (n1 _) | exact absurd rfl (n2 _ _)
    have hlt : off < c.length := by omega
    refine ⟨c[off], ?_, ?_⟩
    · rw [hs1]; unfold prt; rw [List.drop_eq_getElem_cons hlt]; rfl
    · simp [Go.part, hag', hlt]

theorem prt_rep {w : World} : ∀ {xs : List PV} {vs : List Value} {F : List Nat}, RepL w xs vs F → ∀ (o n : Nat), ∃ G, RepL w (prt o n xs) (prt o n vs) G ∧ ∀ c ∈ G, c ∈ F
  | _, _, _, .nil, o, n => ⟨[], by simpa [prt] using .nil, by simp⟩
  | _, _, _, .cons (F := F) (G := G) h t, 0, 0 => ⟨[], by simpa [prt] using .nil, by simp⟩
  | _, _, _, .cons (F := F) (G := G) h t, 0, n + 1 => by
    obtain ⟨G1, h1, h2⟩ := prt_rep t 0 n
    refine ⟨F ++ G1, by simpa [prt] using RepL.cons h (by simpa [prt] using h1), fun c hc => ?_⟩
    rcases List.mem_append.1 hc with hc | hc
    · simp [hc]
    · simp [h2 c hc]
  | _, _, _, .cons (F := F) (G := G) h t, o + 1, n => by
    obtain ⟨G1, h1, h2⟩ := prt_rep t o n
    exact ⟨G1, by simpa [prt] using h1, fun c hc => by simp [h2 c hc]⟩

theorem op_field (hT : TTok P) (hg : G E M σ a w) (hd : o.dst.all (fun d => Nat.blt d σ.n) = true) {t : Nat} {x : Operand} {f : Nat} (hop : o.op = .field t x f) {i : TI} (ht : tt t = some i) {s : Slot}
    (hs : fieldS i (eval σ x) f = some s) (h : K (putO σ o.dst s)) : o.wp P a w (Nx E K) Q := by
  have hx := eval_cl hg x
  unfold fieldS at hs
  split at hs
  · rename_i off ft hfo
    split at hs
    · rename_i j hj
      obtain ⟨fields, fd, hu, hfd, rfl, rfl⟩ := fieldOf_some hT ht hfo
      have run : ∀ c v, a.eval x = .agg ⟨c⟩ → (Go.part fd.type ⟨c⟩ fd.offset).run P w = .ok v w → (execOp a.eval o).run P w = .ok (.value v) w := by
        intro c v hv hp
        simp [execOp, hop, hv, Instr.field, run_underlying hu, hfd, asAgg, hp]
      split at hs
      · rename_i ls he
        rw [he] at hx
        split at hs
        · rename_i hle
          obtain ⟨cs, hv, h2⟩ := hx
          have hlen := h2.length
          obtain ⟨p1, p2⟩ := part_run (P := P) (w := w) hT hj (c := cs) (off := fd.offset) (by omega)
          have k5 := (h2.drop fd.offset).take j.size
          cases hag : j.ag with
          | true =>
            simp only [ofSleaves, hag, if_true] at hs
            cases hs
            exact wp_val (run _ _ hv (p1 hag)) (nx_put hg hd (s := .ag (prt fd.offset j.size ls)) ⟨_, rfl, k5⟩ h)
          | false =>
            obtain ⟨v, hv1, p2'⟩ := p2 hag
            rw [hag] at hs
            have k6 : All2 (Cl1 E M σ w) (prt fd.offset j.size ls) [v] := by rw [← hv1]; exact k5
            generalize prt fd.offset j.size ls = xs at k6 hs
            match xs, k6 with
            | [y], .cons hy _ =>
              have := ofSleaves_one hs
              subst this
              exact wp_val (run _ _ hv p2') (nx_put hg hd (ClS.of1 hy) h)
        · cases hs
      · rename_i ls bs he
        rw [he] at hx
        split at hs
        · rename_i hle
          split at hs
          · rename_i r hr
            cases hs
            obtain ⟨F, h1, h2⟩ := hx
            generalize hv : a.eval x = v at h1
            cases h1 with
            | agg h1 =>
              rename_i cs
              have hlen := h1.length
              obtain ⟨p1, p2⟩ := part_run (P := P) (w := w) hT hj (c := cs) (off := fd.offset) (by omega)
              obtain ⟨G1, m1, m2⟩ := prt_rep h1 fd.offset j.size
              cases hag : j.ag with
              | true =>
                simp only [ofLeaves, hag, if_true] at hr
                cases hr
                exact wp_val (run _ _ hv (p1 hag)) (nx_put hg hd (ClS.of1 (mkpv_cl ⟨G1, .agg m1, h2.mono m2⟩)) h)
              | false =>
                obtain ⟨v, hv1, p2'⟩ := p2 hag
                simp only [ofLeaves, hag] at hr
                rw [hv1] at m1
                generalize prt fd.offset j.size ls = xs at m1 hr
                match xs, m1 with
                | [y], .cons (F := F1) hy tl =>
                  simp at hr
                  subst hr
                  exact wp_val (run _ _ hv p2') (nx_put hg hd (ClS.of1 (mkpv_cl ⟨F1, hy, h2.mono (fun b hb => m2 b (by simp [hb]))⟩)) h)
          · cases hs
        · cases hs
      · cases hs
    · cases hs
  · cases hs

theorem elem_types (hT : TTok P) {t e : Nat} {i : TI} (h : elemOf t = some (e, i)) : P.underlying t = some (.slice e) ∧ ∃ inf z cs, P.info? e = some inf ∧ inf.size = i.size ∧ inf.bytes = i.bytes ∧ inf.zero = some z ∧ i.zero = cs.map PV.val ∧ cs.length = i.size ∧
    (∀ v ∈ cs, v.oneCell' = true) ∧ z.cells = ⟨cs⟩ := by
  obtain ⟨⟨j, hj, hk⟩, he⟩ := elemOf_some h
  obtain ⟨d, hd, _, _, hs, _⟩ := (hT _ _ hj).und
  obtain ⟨inf, z, cs, h1, h2, h3, h4, h5, h6, h7, h8, _⟩ := (hT _ _ he).info
  exact ⟨by rw [hd, hs _ hk], inf, z, cs, h1, h2, h3, h4, h5, h6, h7, h8⟩

theorem add_addr (b o n : Nat) : (⟨b, o, none⟩ : Addr).add n = ⟨b, o + n, none⟩ := by unfold Addr.add; split <;> simp_all

theorem op_indexAddr (hT : TTok P) (hg : G E M σ a w) (hd : o.dst.all (fun d => Nat.blt d σ.n) = true) {t : Nat} {x ix : Operand} (hop : o.op = .indexAddr t x ix) {e : Nat} {i : TI} (ht : elemOf t = some (e, i))
    (h : indexAddrS (stdA P) σ i (eval σ x) (eval σ ix) (fun s => K (putO σ o.dst s))) : o.wp P a w (Nx E K) Q := by
  have hx := eval_cl hg x
  obtain ⟨hu, inf, z, cs, hi, hsz, _⟩ := elem_types hT ht
  unfold indexAddrS at h
  split at h
  · rename_i k n hn
    have hv := intOf_val hn (eval_cl hg ix)
    obtain ⟨hn0, h⟩ := h
    have hnn : (n.toNat : Int) = n := Int.toNat_of_nonneg hn0
    have run : ∀ b p len cap, a.eval x = .slice (some ⟨b, p, none⟩) len cap → n.toNat < len → (execOp a.eval o).run P w = .ok (.value (.pointer (some ⟨b, p + n.toNat * i.size, none⟩))) w := by
      intro b p len cap hvx hlt
      have : (n : Int) < len := by omega
      simp [execOp, hop, hvx, hv, Instr.indexAt, run_underlying hu, asIntOf, hn0, this, sizeOf, typeInfo, hi, hsz, add_addr]
    split at h
    · rename_i id sub he
      rw [he] at hx
      split at h
      · rename_i es sz u io hf
        split at h
        · rename_i hszz
          subst hszz
          have fin : ∀ o0 l v, Hdr M w id es.length i.size o0 l v → n.toNat < l → ∃ cap, v = .slice (some ⟨M.blk id, M.off id + o0 * i.size, none⟩) l cap := by
            intro o0 l v hh hlt
            obtain ⟨a0, cap, rfl, h1, h2, h3, h4⟩ := hh
            obtain ⟨rfl, _⟩ := h4 (by omega)
            exact ⟨cap, rfl⟩
          cases sub with
          | none =>
            obtain ⟨y, hy, h⟩ := h
            have hlt : n.toNat < es.length := (List.getElem?_eq_some_iff.1 hy).1
            obtain ⟨cap, hvx⟩ := fin _ _ _ (hx _ _ _ _ hf) hlt
            refine wp_val (run _ _ _ _ hvx hlt) (nx_put hg hd (s := .rref id n.toNat 0) (fun es' sz' u' io' hf' => ?_) h)
            rw [hf] at hf'; cases hf'
            simp
          | some p =>
            obtain ⟨o0, l⟩ := p
            obtain ⟨y, hy, h⟩ := h
            have hlt : n.toNat < ((es.drop o0).take l).length := (List.getElem?_eq_some_iff.1 hy).1
            have hlt' : n.toNat < l := by simp at hlt; omega
            obtain ⟨cap, hvx⟩ := fin _ _ _ (hx _ _ _ _ hf) hlt'
            refine wp_val (run _ _ _ _ hvx hlt') (nx_put hg hd (s := .rref id (o0 + n.toNat) 0) (fun es' sz' u' io' hf' => ?_) h)
            rw [hf] at hf'; cases hf'
            simp [Nat.add_mul, Nat.add_assoc]
        · exact h.elim
      · exact h.elim
    · rename_i es bs he
      rw [he] at hx
      obtain ⟨y, hy, h⟩ := h
      split at h
      · rename_i hl
        obtain ⟨F, h1, h2⟩ := hx
        generalize hv : a.eval x = v at h1
        have hlt := (List.getElem?_eq_some_iff.1 hy).1
        cases h1 with
        | nil => simp at hy
        | sl hne hcap hr =>
          obtain ⟨l1, G1, l2, l3⟩ := hr.get hy
          refine wp_val (run _ _ _ _ hv hlt) (nx_put hg hd (s := .pv (.pt (leaves y)) bs) ⟨_, .pt (by rw [← hl, l1]; exact l2), h2.mono (fun b hb => ?_)⟩ h)
          rcases List.mem_cons.1 hb with rfl | hb
          · simp
          · simp [l3 b hb]
      · exact h.elim
    · exact h.elim
  · exact h.elim

theorem run_sliceNil {t e : TypeId} {a0 : Option Addr} {l cap : Nat} {w : World} (hd : P.underlying t = some (.slice e)) : (Op.equal t (.slice a0 l cap) (.slice none 0 0)).run P w = .ok a0.isNone w := by
  unfold Op.equal Op.maxDepth
  rw [show (10000 : Nat) = 9999 + 1 from rfl]
  unfold Op.equalIn
  cases a0 <;> simp [run_underlying hd]

theorem isNilSl_eq {y : Operand} (h : isNilSl y = true) : y = .const (.slice none 0 0) := by
  unfold isNilSl at h
  split at h
  · rfl
  · cases h

theorem op_nilCmp (hT : TTok P) (hg : G E M σ a w) (hd : o.dst.all (fun d => Nat.blt d σ.n) = true) {op : BinOp} {t t' : TypeId} {x y : Operand} (hop : o.op = .binOp op t x y t') (hy : isNilSl y = true) {e : Nat} {i : TI} (ht : elemOf t = some (e, i))
    (h : nilCmp (stdA P) σ op (eval σ x) (fun b => K (putO σ o.dst (.pv (.val (.bool b)) [])))) : o.wp P a w (Nx E K) Q := by
  have hyv := isNilSl_eq hy
  subst hyv
  obtain ⟨hu, _⟩ := elem_types hT ht
  have hval : ∃ a0 l cap es, a.eval x = .slice a0 l cap ∧ sliceOf (stdA P) σ (eval σ x) = some es ∧ (es ≠ [] → a0.isNone = false) := by
    have hc := eval_cl hg x
    cases hs : eval σ x with
    | pv r bs =>
      rw [hs] at hc
      unfold nilCmp at h
      rw [hs] at h
      cases r with
      | sl es =>
        obtain ⟨F, hr, _⟩ := hc
        generalize a.eval x = v at hr
        cases hr with
        | nil a0 cap => exact ⟨a0, 0, cap, [], rfl, rfl, fun h => absurd rfl h⟩
        | sl hne hcap hrow => exact ⟨_, _, _, es, rfl, rfl, fun _ => rfl⟩
      | _ => exact h.elim
    | own id sub =>
      rw [hs] at hc
      unfold nilCmp at h
      rw [hs] at h
      simp only at h
      cases hcon : content (stdA P) σ id sub with
      | none => simp only [sliceOf, hcon] at h
      | some es =>
        have hcon' := hcon
        unfold content at hcon'
        split at hcon'
        · rename_i es0 sz u io hf
          cases sub with
          | none =>
            cases hcon'
            obtain ⟨a0, cap, hv, h1, h2, h3, h4⟩ := hc _ _ _ _ hf
            refine ⟨a0, _, cap, _, hv, hcon, fun hne => ?_⟩
            have : cap ≠ 0 := fun e => hne (List.eq_nil_of_length_eq_zero (by clear h4; omega))
            rw [(h4 this).1]; rfl
          | some p =>
            obtain ⟨o', l⟩ := p
            obtain ⟨a0, cap, hv, h1, h2, h3, h4⟩ := hc _ _ _ _ hf
            refine ⟨a0, _, cap, es, hv, hcon, fun hne => ?_⟩
            have : cap ≠ 0 := by
              intro e
              have hl : l = 0 := by clear h4; omega
              simp only [Option.some.injEq] at hcon'
              apply hne
              rw [← hcon']
              show (List.drop o' es0).take l = []
              rw [hl]; rfl
            rw [(h4 this).1]; rfl
        · cases hcon'
    | _ => unfold nilCmp at h; rw [hs] at h; exact h.elim
  obtain ⟨a0, l, cap, es, hv, hes, hne⟩ := hval
  unfold nilCmp at h
  rw [hes] at h
  simp only at h
  have hrun := run_sliceNil (P := P) (w := w) (a0 := a0) (l := l) (cap := cap) hu
  have hcv : a.eval (.const (.slice none 0 0)) = .slice none 0 0 := rfl
  have pick : ∀ X : Bool → Prop, ((es ≠ [] → X false) ∧ (es = [] → X true ∧ X false)) → X a0.isNone := by
    intro X hX
    by_cases he : es = []
    · obtain ⟨k1, k2⟩ := hX.2 he
      cases a0.isNone
      · exact k2
      · exact k1
    · rw [hne he]; exact hX.1 he
  cases op
  case eql =>
    have hb := pick (fun b => K (putO σ o.dst (.pv (.val (.bool b)) []))) h
    exact wp_val (v := .bool a0.isNone) (w' := w) (by simp [execOp, hop, hv, hcv, eqGuard, binOp, hrun]) (nx_put hg hd (val_cl rfl) hb)
  case neq =>
    have hb := pick (fun b => K (putO σ o.dst (.pv (.val (.bool (!b))) []))) h
    exact wp_val (v := .bool !a0.isNone) (w' := w) (by simp [execOp, hop, hv, hcv, eqGuard, binOp, hrun]) (nx_put hg hd (val_cl rfl) hb)
  all_goals (have hb := pick (fun _ => False) h; exact hb.elim)

end ops
end Go.VAI

namespace Go.VAI
variable {E : Env} {P : Program}

section ops
variable {M : Mp} {σ : St} {a : Act} {w : World} {o : Oper} {K : St → Prop} {Q : Exit → Act → World → Prop}

def BoundOk (a : Act) (x : Option Operand) (dflt n : Nat) : Prop := match x with
  | none => n = dflt
  | some x => ∃ k, a.eval x = .int k (n : Int)

theorem bound_ok (hg : G E M σ a w) {x : Option Operand} {dflt : Nat} {K' : Nat → Prop} (h : bound σ (stdA P) x dflt K') : ∃ n, BoundOk a x dflt n ∧ K' n := by
  unfold bound at h
  split at h
  · exact ⟨_, rfl, h⟩
  · rename_i x
    split at h
    · rename_i k n hn
      obtain ⟨h0, h⟩ := h
      refine ⟨n.toNat, ⟨k, ?_⟩, h⟩
      rw [intOf_val hn (eval_cl hg x), Int.toNat_of_nonneg h0]
    · exact h.elim

theorem run_slice4 (hT : TTok P) {t e : Nat} {i : TI} (ht : elemOf t = some (e, i)) {a0 : Option Addr} {len cap l h : Nat} {lo hi : Option Operand} (hlo : BoundOk a lo 0 l) (hhi : BoundOk a hi len h) (h1 : l ≤ h) (h2 : h ≤ cap) (h3 : len ≤ cap) :
    (Instr.sliceAt t (.slice a0 len cap) (lo.map a.eval) (hi.map a.eval) none).run P w = .ok (sliced a0 l h cap i.size) w := by
  obtain ⟨hu, inf, z, cs, hi', hsz, _⟩ := elem_types hT ht
  have he : P.elem t = e := by simp [Program.elem, hu]
  have hu' : P.underlying t = some (.slice (P.elem t)) := by rw [he]; exact hu
  have hs : (sizeOf (P.elem t)).run P w = .ok i.size w := by simp [sizeOf, typeInfo, he, hi', hsz]
  rw [run_sliceAt_slice w t _ _ _ _ hu']
  cases lo with
  | none =>
    simp only [BoundOk] at hlo; subst hlo
    cases hi with
    | none =>
      simp only [BoundOk] at hhi; subst hhi
      simp only [Option.map_none]
      rw [run_slice_all w t a0 _ cap hu', hs]; rfl
    | some y =>
      obtain ⟨k, hk⟩ := hhi
      simp only [Option.map_none, Option.map_some, hk]
      rw [run_slice_h w t a0 len cap hu' k _ (by omega) (by omega), hs]; simp
  | some x =>
    obtain ⟨k, hk⟩ := hlo
    cases hi with
    | none =>
      simp only [BoundOk] at hhi; subst hhi
      simp only [Option.map_none, Option.map_some, hk]
      rw [run_slice_l w t a0 _ cap hu' k _ (by omega) (by omega), hs]; simp
    | some y =>
      obtain ⟨k', hk'⟩ := hhi
      simp only [Option.map_some, hk, hk']
      rw [run_slice_lh w t a0 len cap hu' k k' _ _ (by omega) (by omega) (by omega), hs]; simp

theorem Hdr.sliced {M : Mp} {w : World} {id n sz o l lo hi : Nat} {v : Value} (h : Hdr M w id n sz o l v) (h1 : lo ≤ hi) (h2 : hi ≤ n - o) :
    ∃ a0 cap, v = .slice a0 l cap ∧ l ≤ cap ∧ hi ≤ cap ∧ Hdr M w id n sz (o + lo) (hi - lo) (sliced a0 lo hi cap sz) := by
  obtain ⟨a0, cap, rfl, h3, h4, h5, h6⟩ := h
  have q1 : hi ≤ cap := by clear h6; omega
  have q2 : hi - lo ≤ cap - lo := by clear h6; omega
  have q3 : o + lo + (hi - lo) ≤ n := by clear h6; omega
  have q4 : n ≤ o + lo + (cap - lo) := by clear h6; omega
  refine ⟨a0, cap, rfl, h3, q1, if cap = lo then a0 else a0.map (·.add (lo * sz)), cap - lo, rfl, q2, q3, q4, fun hc => ?_⟩
  have q5 : ¬ cap = lo := fun e => hc (by rw [e, Nat.sub_self])
  have q6 : o + lo + (cap - lo) = o + cap := by clear h6; omega
  obtain ⟨rfl, h7, c, e, h8, h9⟩ := h6 (fun e => hc (by rw [e, Nat.zero_sub]))
  refine ⟨?_, h7, c, e, h8, ?_⟩
  · rw [if_neg q5]
    simp only [Option.map_some, add_addr]
    rw [Nat.add_assoc, ← Nat.add_mul]
  · rw [q6]; exact h9

theorem op_slice (hT : TTok P) (hg : G E M σ a w) (hd : o.dst.all (fun d => Nat.blt d σ.n) = true) {t : Nat} {x : Operand} {lo hi : Option Operand} (hop : o.op = .slice t x lo hi none) {e : Nat} {i : TI} (ht : elemOf t = some (e, i))
    (h : sliceS (stdA P) σ i (eval σ x) lo hi (fun s => K (putO σ o.dst s))) : o.wp P a w (Nx E K) Q := by
  have hx := eval_cl hg x
  have run : ∀ a0 len cap l h, a.eval x = .slice a0 len cap → BoundOk a lo 0 l → BoundOk a hi len h → l ≤ h → h ≤ cap → len ≤ cap → (execOp a.eval o).run P w = .ok (.value (sliced a0 l h cap i.size)) w := by
    intro a0 len cap l h hv h1 h2 h3 h4 h5
    have := run_slice4 (P := P) (w := w) hT ht (a0 := a0) h1 h2 h3 h4 h5
    simp only [execOp, hop, hv, Option.map_none, Sem.run_bind, this]
    rfl
  unfold sliceS at h
  split at h
  · rename_i id sub he
    rw [he] at hx
    split at h
    · rename_i es sz u io hf
      split at h
      · rename_i hsz
        subst hsz
        have fin : ∀ o0 n l0 h0, Hdr M w id es.length i.size o0 n (a.eval x) → BoundOk a lo 0 l0 → BoundOk a hi n h0 → l0 ≤ h0 → h0 ≤ es.length - o0 → K (putO σ o.dst (.own id (some (o0 + l0, h0 - l0)))) → o.wp P a w (Nx E K) Q := by
          intro o0 n l0 h0 hh b1 b2 h1 h2 hK
          obtain ⟨a0, cap, hv, h3, h4, h5⟩ := hh.sliced h1 h2
          refine wp_val (run _ _ _ _ _ hv b1 b2 h1 h4 h3) (nx_put hg hd (s := .own id (some (o0 + l0, h0 - l0))) (fun es' sz' u' io' hf' => ?_) hK)
          rw [hf] at hf'; cases hf'
          exact h5
        cases sub with
        | none =>
          obtain ⟨h0, b2, h⟩ := bound_ok hg h
          obtain ⟨l0, b1, h⟩ := bound_ok hg h
          exact fin 0 es.length l0 h0 (hx _ _ _ _ hf) b1 b2 h.1 (by simpa [stdA] using h.2.1) (by simpa [stdA] using h.2.2)
        | some p =>
          obtain ⟨o0, n⟩ := p
          obtain ⟨h0, b2, h⟩ := bound_ok hg h
          obtain ⟨l0, b1, h⟩ := bound_ok hg h
          exact fin o0 n l0 h0 (hx _ _ _ _ hf) b1 b2 h.1 (by simpa [stdA] using h.2.1) h.2.2
      · exact h.elim
    · exact h.elim
  · rename_i es bs he
    rw [he] at hx
    obtain ⟨hw, h⟩ := h
    obtain ⟨h0, b2, h⟩ := bound_ok hg h
    obtain ⟨l0, b1, h⟩ := bound_ok hg h
    obtain ⟨h1, h2, h⟩ := h
    simp only [stdA] at h2 b2
    obtain ⟨F, r1, r2⟩ := hx
    generalize hv : a.eval x = v at r1
    cases r1 with
    | nil a0 cap =>
      simp at h2
      refine wp_val (run a0 0 cap l0 h0 hv b1 b2 h1 (by omega) (by omega)) (nx_put hg hd (s := .pv (.sl ((([] : List PV).drop l0).take (h0 - l0))) bs) ?_ h)
      simp only [List.drop_nil, List.take_nil]
      have : h0 - l0 = 0 := by omega
      refine ⟨[], ?_, fun b hb => by simp at hb⟩
      simp only [sliced, this]
      exact .nil _ _
    | sl hne hcap hr =>
      rename_i b p sz cap F
      refine wp_val (run _ _ cap l0 h0 hv b1 b2 h1 (by omega) hcap) (nx_put hg hd (s := .pv (.sl ((es.drop l0).take (h0 - l0))) bs) ?_ h)
      have hlen : ((es.drop l0).take (h0 - l0)).length = h0 - l0 := by simp; omega
      by_cases hz : h0 - l0 = 0
      · refine ⟨[], ?_, fun b hb => by simp at hb⟩
        simp only [sliced, hz, List.take_zero]
        exact .nil _ _
      · obtain ⟨y, hy⟩ := List.exists_mem_of_ne_nil _ hne
        obtain ⟨n, hn, hny⟩ := List.getElem_of_mem hy
        have hsz : sz = i.size := by
          have := (hr.get (i := n) (x := y) (by rw [List.getElem?_eq_getElem hn, hny])).1
          rw [← this]; exact (hw y hy).1
        subst hsz
        obtain ⟨G1, g1, g2⟩ := hr.drop l0 (by omega)
        obtain ⟨G2, g3, g4⟩ := g1.take (h0 - l0)
        refine ⟨b :: G2, ?_, r2.mono (fun c hc => ?_)⟩
        · simp only [sliced]
          rw [if_neg (by omega)]
          simp only [Option.map_some, add_addr]
          have := Rep.sl (w := w) (es := (es.drop l0).take (h0 - l0)) (b := b) (o := p + l0 * i.size) (cap := cap - l0) (by intro e; rw [e] at hlen; simp at hlen; omega) (by omega) g3
          rwa [hlen] at this
        · rcases List.mem_cons.1 hc with rfl | hc
          · simp
          · simp [g2 c (g4 c hc)]
  · rename_i bs he
    rw [he] at hx
    obtain ⟨h0, b2, hA⟩ := bound_ok hg h
    obtain ⟨l0, b1, hB⟩ := bound_ok hg hA
    obtain ⟨h1, h2, hC⟩ := hB
    clear h hA
    obtain ⟨F, r1, r2⟩ := hx
    generalize hv : a.eval x = v at r1
    cases r1
    have h00 : h0 = 0 := Nat.le_zero.1 h2
    subst h00
    have l00 : l0 = 0 := Nat.le_zero.1 h1
    subst l00
    refine wp_val (run none 0 0 0 0 hv b1 b2 h1 (by omega) (by omega)) (nx_put hg hd (s := .pv (.val (.slice none 0 0)) []) ?_ hC)
    exact val_cl rfl
  · exact h.elim

theorem op_slice3 (hT : TTok P) (hg : G E M σ a w) (hd : o.dst.all (fun d => Nat.blt d σ.n) = true) {t : Nat} {x lo hi mx : Operand} (hop : o.op = .slice t x (some lo) (some hi) (some mx)) {e : Nat} {i : TI} (ht : elemOf t = some (e, i))
    (h : slice3S (stdA P) σ i (eval σ x) lo hi mx (fun _ => K (putO σ o.dst .dead))) : o.wp P a w (Nx E K) Q := by
  have hx := eval_cl hg x
  unfold slice3S at h
  split at h
  · rename_i id he
    rw [he] at hx
    split at h
    · rename_i es sz u io hf
      split at h
      · rename_i hsz
        subst hsz
        obtain ⟨m0, b3, h⟩ := bound_ok hg h
        obtain ⟨h0, b2, h⟩ := bound_ok hg h
        obtain ⟨l0, b1, h⟩ := bound_ok hg h
        obtain ⟨h1, h2, h3, h4, h⟩ := h
        simp only [stdA] at h4
        obtain ⟨k1, b1⟩ := b1
        obtain ⟨k2, b2⟩ := b2
        obtain ⟨k3, b3⟩ := b3
        obtain ⟨a0, cap, hv, h5, -, -, -⟩ : Hdr M w id es.length i.size 0 es.length (a.eval x) := hx _ _ _ _ hf
        obtain ⟨hu, inf, z, cs, hi', hsz, _⟩ := elem_types hT ht
        have he' : P.elem t = e := by simp [Program.elem, hu]
        have hu' : P.underlying t = some (.slice (P.elem t)) := by rw [he']; exact hu
        have hs : (sizeOf (P.elem t)).run P w = .ok i.size w := by simp [sizeOf, typeInfo, he', hi', hsz]
        have run : (execOp a.eval o).run P w = .ok (.value (sliced a0 l0 h0 m0 i.size)) w := by
          have := run_slice_lhm w t a0 es.length cap hu' k1 k2 k3 l0 h0 m0 (by omega) (by omega) (by omega) (by omega)
          simp only [execOp, hop, Option.map_some, b1, b2, b3, hv, run_sliceAt_slice w t _ _ _ _ hu', Sem.run_bind, this, hs]
          rfl
        exact wp_val run (nx_put hg hd (s := .dead) trivial h)
      · exact h.elim
    · exact h.elim
  · exact h.elim

theorem op_extract (hg : G E M σ a w) (hd : o.dst.all (fun d => Nat.blt d σ.n) = true) {x : Operand} {n : Nat} (hop : o.op = .extract x n) {ls : List Slot} (hl : eval σ x = .tup ls) {s : Slot} (hs : ls[n]? = some s)
    (h : K (putO σ o.dst s)) : o.wp P a w (Nx E K) Q := by
  have hx := eval_cl hg x
  rw [hl] at hx
  obtain ⟨cs, hv, h2⟩ := hx
  have hlt : n < cs.length := by rw [← h2.length]; exact (List.getElem?_eq_some_iff.1 hs).1
  have hc := h2.get hs (List.getElem?_eq_getElem hlt)
  exact wp_val (v := cs[n]) (w' := w) (by simp [execOp, hop, hv, Instr.extract, hlt]) (nx_put hg hd (ClS.of2 hc) h)

theorem lenS_val (hg : G E M σ a w) {s : Slot} {n : Nat} (h : lenS (stdA P) σ s = some n) {v : Value} (hc : ClS E M σ w s v) : ∃ a0 cap, v = .slice a0 n cap := by
  unfold lenS at h
  split at h
  · split at h
    · rename_i hf
      split at h
      · cases h
        obtain ⟨a0, cap, rfl, _⟩ := hc _ _ _ _ hf
        exact ⟨a0, cap, rfl⟩
      · cases h
        obtain ⟨a0, cap, rfl, _⟩ := hc _ _ _ _ hf
        exact ⟨a0, cap, rfl⟩
    · cases h
  · cases h
    obtain ⟨F, h1, _⟩ := hc
    cases h1 with
    | nil a0 cap => exact ⟨a0, cap, rfl⟩
    | sl => exact ⟨_, _, rfl⟩
  · cases h
    obtain ⟨F, h1, _⟩ := hc
    cases h1
    exact ⟨_, _, rfl⟩
  · rename_i id i o ys
    split at h
    · rename_i hf
      cases h
      obtain ⟨F, h1, _⟩ := pv1_rep (P := P) hg (s := .lf id i o ys) (r := .sl ys) (by simp only [pv1, hf]) hc
      cases h1 with
      | nil a0 cap => exact ⟨a0, cap, rfl⟩
      | sl => exact ⟨_, _, rfl⟩
    · cases h
  · cases h

theorem op_len (hT : TTok P) (hg : G E M σ a w) (hd : o.dst.all (fun d => Nat.blt d σ.n) = true) {c : Call} (hop : o.op = .call c) (hc : c.callee = .builtin .len) {x : Operand} (hx : c.args.toList = [x]) {t : Nat} (htt : c.argTypes.toList = [t]) {e : Nat × TI} (ht : elemOf t = some e)
    {n : Nat} (hn : lenS (stdA P) σ (eval σ x) = some n) (h : K (putO σ o.dst (.pv (.val (.int .i64 ((stdA P).ofN n))) []))) : o.wp P a w (Nx E K) Q := by
  obtain ⟨hu, _⟩ := elem_types (e := e.1) (i := e.2) hT ht
  obtain ⟨a0, cap, hv⟩ := lenS_val hg hn (eval_cl hg x)
  have h1 : c.args = #[x] := by cases hh : c.args; simp [hh] at hx; rw [hx]
  have h2 : c.argTypes = #[t] := by cases hh : c.argTypes; simp [hh] at htt; rw [htt]
  have he : P.elem t = e.1 := by simp [Program.elem, hu]
  have := run_len_slice (P := P) w t o.type a0 n cap (by rw [he]; exact hu)
  exact wp_val (v := .int .i64 n) (w' := w) (by simp [execOp, hop, resolve, hc, invoke, builtin, h1, h2, hv, this, goInt]) (nx_put hg hd (val_cl rfl) h)

theorem op_max (hg : G E M σ a w) (hd : o.dst.all (fun d => Nat.blt d σ.n) = true) {c : Call} (hop : o.op = .call c) (hc : c.callee = .builtin .max) {x y : Operand} (hx : c.args.toList = [x, y])
    {k : IntKind} {m n : Int} (hm : intOf (eval σ x) = some (k, m)) (hn : intOf (eval σ y) = some (k, n)) (h : K (putO σ o.dst (.pv (.val (.int k ((stdA P).mx m n))) []))) : o.wp P a w (Nx E K) Q := by
  have h1 : c.args = #[x, y] := by cases hh : c.args; simp [hh] at hx; rw [hx]
  have v1 := intOf_val hm (eval_cl hg x)
  have v2 := intOf_val hn (eval_cl hg y)
  exact wp_val (v := .int k ((stdA P).mx m n)) (w' := w) (by simp [execOp, hop, resolve, hc, invoke, builtin, h1, v1, v2, run_max_int2, stdA]) (nx_put hg hd (val_cl rfl) h)

theorem op_min (hg : G E M σ a w) (hd : o.dst.all (fun d => Nat.blt d σ.n) = true) {c : Call} (hop : o.op = .call c) (hc : c.callee = .builtin .min) {x y : Operand} (hx : c.args.toList = [x, y])
    {k : IntKind} {m n : Int} (hm : intOf (eval σ x) = some (k, m)) (hn : intOf (eval σ y) = some (k, n)) (h : K (putO σ o.dst (.pv (.val (.int k ((stdA P).mn m n))) []))) : o.wp P a w (Nx E K) Q := by
  have h1 : c.args = #[x, y] := by cases hh : c.args; simp [hh] at hx; rw [hx]
  have v1 := intOf_val hm (eval_cl hg x)
  have v2 := intOf_val hn (eval_cl hg y)
  exact wp_val (v := .int k ((stdA P).mn m n)) (w' := w) (by simp [execOp, hop, resolve, hc, invoke, builtin, h1, v1, v2, run_min_int2, stdA]) (nx_put hg hd (val_cl rfl) h)

theorem op_makeFunc (hg : G E M σ a w) (hd : o.dst.all (fun d => Nat.blt d σ.n) = true) {f : FuncId} {first caps : Array Operand} (hop : o.op = .makeFunc (.func f) first caps) (hf : (first.isEmpty && (caps.toList.map (eval σ)).all isLeaf) = true)
    (h : K (putO σ o.dst (.clo f (caps.toList.map (eval σ))))) : o.wp P a w (Nx E K) Q := by
  simp only [Bool.and_eq_true] at hf
  obtain ⟨hf, hl⟩ := hf
  have hf' : first = #[] := by simpa using hf
  subst hf'
  refine wp_val (v := .func (.func f) #[] (caps.map a.eval)) (w' := w) (by simp [execOp, hop, Instr.makeFunc]) (nx_put hg hd (s := .clo f (caps.toList.map (eval σ))) ⟨caps.toList.map a.eval, ?_, ?_⟩ h)
  · congr 1; rw [← Array.toList_map]
  · have : ∀ l : List Operand, (l.map (eval σ)).all isLeaf = true → All2 (Cl1 E M σ w) (l.map (eval σ)) (l.map a.eval) := by
      intro l
      induction l with
      | nil => intro _; exact .nil
      | cons x l ih =>
        intro hl
        simp only [List.map_cons, List.all_cons, Bool.and_eq_true] at hl
        refine .cons ?_ (ih hl.2)
        have hx := eval_cl hg x
        have hl1 := hl.1
        generalize eval σ x = s at hx hl1
        cases s <;> first | exact hx | simp [isLeaf] at hl1
    exact this _ hl

end ops

/-! ### A file that is made -/

def Mp.new (M : Mp) (id b : Nat) : Mp := { κ := fun c => if c = b then some id else M.κ c, blk := fun j => if j = id then b else M.blk j, off := fun j => if j = id then 0 else M.off j }

theorem turn_new {M : Mp} {σ : St} {a : Act} {w : World} (hg : G E M σ a w) {id : Nat} (hκ : ∀ b, M.κ b ≠ some id) {w1 : World} (h1 : w1.heap = w.heap) (h2 : w1.os = w.os) (h3 : TapeLe w w1) (h4 : w1.output = w.output) (ob : Obj) :
    Turn E id M (M.new id w.heap.size) w (w1.alloc ob) where
  heap b hb _ := by
    have : (w1.alloc ob).heap = w1.heap.push ob := rfl
    rw [this, h1, Array.getElem?_push]
    rw [if_neg (by omega)]
  size := by rw [World.size_alloc, h1]; omega
  κ b hb _ := by simp [Mp.new, show b ≠ w.heap.size by omega]
  κo b j h := absurd h (hκ b)
  κn b j hb h := by
    simp only [Mp.new] at h ⊢
    by_cases hc : b = w.heap.size
    · rw [if_pos hc] at h; cases h; exact ⟨rfl, by rw [World.size_alloc, h1]; omega⟩
    · rw [if_neg hc] at h
      have := (hg.own _ _ h)
      omega
  blk j hj := by simp [Mp.new, hj]
  os := by rw [← h2]; rfl
  tape := h3
  out := by rw [← h4]; rfl

theorem okD_lt {d : Nat} (h : okD d = true) : ioMax ≤ d ∧ d < 4096 := by
  simp only [okD, Bool.and_eq_true, Bool.not_eq_true'] at h
  refine ⟨?_, by simpa [Nat.blt_eq] using h.2⟩
  have := h.1
  rcases Nat.lt_or_ge d ioMax with hlt | hge
  · rw [show Nat.blt d ioMax = true by rw [Nat.blt_eq]; exact hlt] at this; cases this
  · exact hge

theorem mkF_ok {M : Mp} {σ : St} {a : Act} {w : World} (hg : G E M σ a w) {d : Nat} {K' : St → Prop} (h : mkF (stdA P) σ d K') :
    d < 4096 ∧ NoIo E d ∧ G E (M.drop d) (retire (stdA P) σ d) a w ∧ (∀ id, cls id = d → Fresh (retire (stdA P) σ d) id) ∧ (∀ id b, cls id = d → (M.drop d).κ b ≠ some id) ∧ K' (retire (stdA P) σ d) := by
  unfold mkF at h
  split at h
  · rename_i hc
    obtain ⟨hge, hlt⟩ := okD_lt hc
    have hio : NoIo E d := by
      intro id q hq hcl
      have hs := E.small id q hq
      rw [hcl] at hs
      omega
    exact ⟨hlt, hio, hg.retire (fun _ _ _ => rfl) hio, fun id hc => retire_fresh hg hc, fun id b hc hk => (Mp.drop_some.1 hk).2 hc, h⟩
  · exact h.elim

theorem noIo_none {d id : Nat} (h : NoIo E d) (hc : cls id = d) : E.io id = none := by
  cases hq : E.io id with
  | none => rfl
  | some q => exact absurd hc (h _ _ hq)

theorem cls_lt {d : Nat} (h : d < 4096) : cls d = d := by simp only [cls]; omega

theorem fresh_eval {σ : St} {id : Nat} (h : Fresh σ id) (x : Operand) : nrS id (eval σ x) := by
  cases x with
  | tmp t => exact h.slots t
  | const v =>
    simp only [eval]
    split
    · show id ∉ ([] : List Nat); simp
    · exact trivial
  | global g => exact trivial
  | func f => show id ∉ ([] : List Nat); simp

theorem nr_sleaves {id : Nat} {s : Slot} (h : nrS id s) : ∀ t ∈ sleaves s, nr1 id t := by
  intro t ht
  cases s with
  | ag ls => exact h t ht
  | pv r bs =>
    cases r with
    | agg ls => obtain ⟨x, _, rfl⟩ := List.mem_map.1 ht; exact h
    | _ => simp only [sleaves, List.mem_singleton] at ht; subst ht; exact h
  | own j sub => simp only [sleaves, List.mem_singleton] at ht; subst ht; exact h
  | ref j o => simp only [sleaves, List.mem_singleton] at ht; subst ht; exact h
  | rref j i o => simp only [sleaves, List.mem_singleton] at ht; subst ht; exact h
  | lf j i o yl => simp only [sleaves, List.mem_singleton] at ht; subst ht; exact h
  | clo f ls => simp only [sleaves, List.mem_singleton] at ht; subst ht; exact trivial
  | tup ls => simp only [sleaves, List.mem_singleton] at ht; subst ht; exact trivial
  | undef => simp only [sleaves, List.mem_singleton] at ht; subst ht; exact trivial
  | dead => simp only [sleaves, List.mem_singleton] at ht; subst ht; exact trivial

theorem fresh_refs1 {σ : St} {id : Nat} (h : Fresh σ id) {s : Slot} (hs : nr1 id s) : id ∉ refs1 σ s := by
  cases s with
  | pv r bs => exact hs
  | own j sub =>
    have hs' : j ≠ id := hs
    simp only [refs1]
    split
    · rename_i es sz u io hf
      have := h.files _ _ hf
      simp only [List.mem_cons, not_or]
      exact ⟨fun e => hs' e.symm, this⟩
    · simp only [List.mem_singleton]; exact fun e => hs' e.symm
  | lf j i o ys =>
    have hs' : j ≠ id := hs
    simp only [refs1]
    split
    · rename_i es sz u io hf
      have := h.files _ _ hf
      simp only [List.mem_cons, not_or]
      exact ⟨fun e => hs' e.symm, this⟩
    · simp only [List.mem_singleton]; exact fun e => hs' e.symm
  | _ => simp [refs1]

theorem fresh_refs2 {σ : St} {id : Nat} (h : Fresh σ id) {s : Slot} (hs : nr2 id s) : id ∉ refs2 σ s := by
  cases s with
  | ag ls =>
    simp only [refs2, List.mem_flatMap, not_exists, not_and]
    exact fun s hs' => fresh_refs1 h (hs s hs')
  | ref j o =>
    have hs' : j ≠ id := hs
    simp only [refs2]
    split
    · rename_i ls hf
      have := h.files _ _ hf
      simp only [List.mem_cons, not_or, List.mem_flatMap, not_exists, not_and]
      exact ⟨fun e => hs' e.symm, fun s hs' => fresh_refs1 h (this s hs')⟩
    · simp only [List.mem_singleton]; exact fun e => hs' e.symm
  | rref j i o =>
    have hs' : j ≠ id := hs
    simp only [refs2, List.mem_singleton]; exact fun e => hs' e.symm
  | pv r bs => exact hs
  | own j sub => exact fresh_refs1 h (s := .own j sub) hs
  | lf j i o ys => exact fresh_refs1 h (s := .lf j i o ys) hs
  | clo f ls => simp [refs2, refs1]
  | tup ls => simp [refs2, refs1]
  | undef => simp [refs2, refs1]
  | dead => simp [refs2, refs1]

theorem nr2_of_S {id : Nat} {s : Slot} (h : nrS id s) : nr2 id s := by
  cases s <;> first | exact h | exact trivial

end Go.VAI

namespace Go.VAI
variable {E : Env} {P : Program}

theorem alloc_heap (w : World) (ob : Obj) : (w.alloc ob).heap = w.heap.push ob := rfl

theorem alloc_new {w w1 : World} (h1 : w1.heap = w.heap) (ob : Obj) : (w1.alloc ob).heap[w.heap.size]? = some ob := by
  rw [alloc_heap, h1]; simp

theorem new_none (c : Array Value) (e : TypeId) : Obj.cells c e = Obj.cells c e (0, 0) := rfl

section made
variable {M : Mp} {σ : St} {a : Act} {w w1 : World} {d : Nat}

theorem made_cell (hg : G E M σ a w) (hfr : Fresh σ d) (hκ : ∀ b, M.κ b ≠ some d) (hio : E.io d = none) (h1 : w1.heap = w.heap) (h2 : w1.os = w.os) (h3 : TapeLe w w1) (h4 : w1.output = w.output)
    {ls : List Slot} {cs : List Value} (hl : All2 (fun s v => Cl1 E M σ w s v ∧ v.oneCell' = true ∧ noTup s = true) ls cs) (hn : ∀ s ∈ ls, nr1 d s) (e : TypeId) :
    G E (M.new d w.heap.size) (putF σ d (.cell ls)) a (w1.alloc (.cells ⟨cs⟩ e (0, 0))) := by
  have ht := turn_new (E := E) hg hκ h1 h2 h3 h4 (.cells ⟨cs⟩ e (0, 0))
  refine hg.new ht hκ hfr hio (by simp) ⟨by simp [Mp.new], ⟨cs⟩, e, by simpa [Mp.new] using alloc_new h1 _, ?_⟩
  have := hl.imp_mem (g := fun x => x) (q := fun s v => Cl1 E (M.new d w.heap.size) (putF σ d (.cell ls)) (w1.alloc (.cells ⟨cs⟩ e (0, 0))) s v ∧ v.oneCell' = true ∧ noTup s = true ∨ s = .dead)
    (fun s hs v hc => .inl ⟨ht.cl1_new hg s v (hn s hs) hc.1, hc.2⟩)
  simpa using this

theorem made_row (hg : G E M σ a w) (hfr : Fresh σ d) (hκ : ∀ b, M.κ b ≠ some d) (hio : E.io d = none) (h1 : w1.heap = w.heap) (h2 : w1.os = w.os) (h3 : TapeLe w w1) (h4 : w1.output = w.output)
    {c : Array Value} {e : TypeId} {es : List PV} {sz : Nat} {u : RU} {F : List Nat} (hr : RepRow (w1.alloc (.cells c e (0, 0))) w.heap.size sz 0 es F) (hnd : isDeepU u = false) (hu : GoodU E M w d sz es u F) (hd : d ∉ rubs u) :
    G E (M.new d w.heap.size) (putF σ d (.row es sz u false)) a (w1.alloc (.cells c e (0, 0))) := by
  have ht := turn_new (E := E) hg hκ h1 h2 h3 h4 (.cells c e (0, 0))
  refine hg.new ht hκ hfr hio (by simp) ⟨fun _ => by simp [Mp.new], hd, fun _ => ⟨by simp [Mp.new], c, e, by simpa [Mp.new] using alloc_new h1 _⟩, F, by simpa [Mp.new] using hr, ?_⟩
  cases u with
  | free => exact hu
  | sh bs => exact ht.good hu hd
  | deep z0 zs => cases hnd

end made

theorem RepL.vals {w : World} : ∀ {cs : List Value}, (∀ v ∈ cs, v.oneCell' = true) → RepL w (cs.map PV.val) cs []
  | [], _ => .nil
  | v :: cs, h => by
    have := RepL.cons (.val v (h v (by simp))) (RepL.vals (w := w) (cs := cs) (fun u hu => h u (by simp [hu])))
    simpa using this

theorem All2.vals {M : Mp} {σ : St} {w : World} : ∀ {cs : List Value}, (∀ v ∈ cs, v.oneCell' = true) → All2 (fun s v => Cl1 E M σ w s v ∧ v.oneCell' = true ∧ noTup s = true) ((cs.map PV.val).map (Slot.pv · [])) cs
  | [], _ => .nil
  | v :: cs, h => .cons ⟨⟨[], .val v (h v (by simp)), fun b hb => by simp at hb⟩, h v (by simp), rfl⟩ (All2.vals (fun u hu => h u (by simp [hu])))

section ops
variable {M : Mp} {σ : St} {a : Act} {w : World} {o : Oper} {K : St → Prop} {Q : Exit → Act → World → Prop}

theorem lt_of_dst (hd : o.dst.all (fun d => Nat.blt d σ.n) = true) {d : Nat} (h : o.dst = some d) : d < σ.n := by
  rw [h] at hd; simpa [Nat.blt_eq] using hd

theorem cells_list {v : Value} {cs : List Value} (h : v.cells = ⟨cs⟩) : v.cells = ⟨cs⟩ := h

theorem op_alloc (hT : TTok P) (hg : G E M σ a w) (hd : o.dst.all (fun d => Nat.blt d σ.n) = true) {t : Nat} (hop : o.op = .alloc t) {d : Nat} (hdst : o.dst = some d) {i : TI} (ht : tt t = some i)
    (h : mkF (stdA P) σ d (fun σ => K (put (putF σ d (.cell (i.zero.map (.pv · [])))) d (.ref d 0)))) : o.wp P a w (Nx E K) Q := by
  obtain ⟨hlt, hio, hg1, hfr, hκ, hK⟩ := mkF_ok hg h
  obtain ⟨inf, z, cs, hi, _, _, hz, hzero, _, hone, hcells, _⟩ := (hT _ _ ht).info
  have hc := cls_lt hlt
  rw [hzero] at hK
  have hg2 := made_cell hg1 (hfr d hc) (fun b => hκ d b hc) (noIo_none hio hc) (w1 := w) rfl rfl TapeLe.rfl' rfl (All2.vals (cs := cs) hone) (fun s hs => by
    obtain ⟨x, _, rfl⟩ := List.mem_map.1 hs; show d ∉ ([] : List Nat); simp) t
  refine wp_val (v := .pointer (some ⟨w.heap.size, 0, none⟩)) (w' := w.alloc (.cells ⟨cs⟩ t (0, 0))) ?_ ?_
  · simp [execOp, hop, Instr.alloc, zeroValue, typeInfo, hi, hz, newVar, newRow, hcells]
  · rw [hdst]
    exact ⟨_, _, hg2.put (lt_of_dst hd hdst) (s := .ref d 0) (fun ls _ => by simp [Mp.new]), hK⟩

theorem op_box (_ : TTok P) (hg : G E M σ a w) (hd : o.dst.all (fun d => Nat.blt d σ.n) = true) {t : Nat} {x : Operand} (hop : o.op = .box t x) {d : Nat} (hdst : o.dst = some d) {i : TI} (_ : tt t = some i)
    (h : mkF (stdA P) σ d (fun σ => if (sleaves (eval σ x)).length = i.size ∧ (sleaves (eval σ x)).all (liveS σ) then K (put (putF σ d (.cell (sleaves (eval σ x)))) d (.ref d 0)) else False)) : o.wp P a w (Nx E K) Q := by
  obtain ⟨hlt, hio, hg1, hfr, hκ, hK⟩ := mkF_ok hg h
  have hc := cls_lt hlt
  split at hK
  · rename_i hl
    obtain ⟨cs, hv, h2⟩ := sleaves_cl (eval_cl hg1 x) hl.2
    have hn := nr_sleaves (fresh_eval (hfr d hc) x)
    have hg2 := made_cell hg1 (hfr d hc) (fun b => hκ d b hc) (noIo_none hio hc) (w1 := w) rfl rfl TapeLe.rfl' rfl h2 hn t
    refine wp_val (v := .pointer (some ⟨w.heap.size, 0, none⟩)) (w' := w.alloc (.cells ⟨cs⟩ t (0, 0))) ?_ ?_
    · simp [execOp, hop, Instr.box, newVar, newRow, hv]
    · rw [hdst]
      exact ⟨_, _, hg2.put (lt_of_dst hd hdst) (s := .ref d 0) (fun ls _ => by simp [Mp.new]), hK⟩
  · exact hK.elim

theorem off_turn (hg : G E M σ a w) (id : Nat) (hκ : ∀ b, M.κ b ≠ some id) : Turn E id M { M with off := fun j => if j = id then 0 else M.off j } w w where
  heap _ _ _ := rfl
  size := Nat.le_refl _
  κ _ _ _ := rfl
  κo b j h := absurd h (hκ b)
  κn b j hb h := by
    have := (hg.own _ _ h)
    omega
  blk j hj := by simp [hj]
  os := rfl
  tape := TapeLe.rfl'
  out := rfl

theorem op_nil (hg : G E M σ a w) (hd : o.dst.all (fun d => Nat.blt d σ.n) = true) {x : Operand} (hop : o.op = .move x ∨ o.op = .assign x) (hx : isNilSl x = true) {d : Nat} (hdst : o.dst = some d) {i : TI}
    (h : mkF (stdA P) σ d (fun σ => K (put (putF σ d (.row [] i.size .free false)) d (.own d none)))) : o.wp P a w (Nx E K) Q := by
  obtain ⟨hlt, hio, hg1, hfr, hκ, hK⟩ := mkF_ok hg h
  have hc := cls_lt hlt
  have ht := off_turn hg1 d (fun b => hκ d b hc)
  have hg2 := hg1.new ht (fun b => hκ d b hc) (hfr d hc) (noIo_none hio hc) (f := .row [] i.size .free false) (by simp) ⟨fun _ => by simp, by simp [rubs], fun h => absurd rfl h, [], .nil _ _ _, rfl⟩
  have hv : a.eval x = .slice none 0 0 := by
    unfold isNilSl at hx
    split at hx
    · rfl
    · cases hx
  refine wp_val (v := .slice none 0 0) (w' := w) (by rcases hop with hop | hop <;> simp [execOp, hop, hv]) ?_
  rw [hdst]
  refine ⟨_, _, hg2.put (lt_of_dst hd hdst) (s := .own d none) (fun es sz u io hf => ?_), hK⟩
  rcases putF_files.1 hf with ⟨_, e⟩ | ⟨e, _⟩
  · cases e
    exact ⟨none, 0, rfl, Nat.le_refl _, Nat.le_refl _, Nat.le_refl _, fun h => absurd rfl h⟩
  · exact absurd rfl e

/-- The header of a row that was made. -/
theorem own_new {M : Mp} {σ : St} {d b : Nat} {w' : World} {es : List PV} {sz : Nat} {u : RU} {c : Array Value} {e : TypeId} {cap : Nat} (hb : w'.heap[b]? = some (.cells c e (0, 0))) (hle : es.length ≤ cap) (hsz : cap * sz ≤ c.size) :
    ClS E (M.new d b) (putF σ d (.row es sz u false)) w' (.own d none) (.slice (some ⟨b, 0, none⟩) es.length cap) := by
  intro es' sz' u' io' hf
  rcases putF_files.1 hf with ⟨_, e⟩ | ⟨e, _⟩
  · cases e
    exact ⟨_, cap, rfl, hle, by simp, by simpa using hle, fun _ => ⟨by simp [Mp.new], by simp [Mp.new], c, _, by simpa [Mp.new] using hb, by simpa [Mp.new] using hsz⟩⟩
  · exact absurd rfl e

theorem RepRow.of_get {w : World} {b sz : Nat} {FF : Nat → Prop} : ∀ (es : List PV) (o : Nat), (∀ i x, es[i]? = some x → (leaves x).length = sz ∧ ∃ F, RepCells w b (o + i * sz) (leaves x) F ∧ ∀ c ∈ F, FF c) →
    ∃ F, RepRow w b sz o es F ∧ ∀ c ∈ F, FF c
  | [], o, _ => ⟨[], .nil _ _ _, by simp⟩
  | x :: xs, o, h => by
    obtain ⟨h1, F, h2, h3⟩ := h 0 x rfl
    obtain ⟨G, h4, h5⟩ := RepRow.of_get xs (o + sz) (fun i y hy => by
      obtain ⟨k1, F, k2, k3⟩ := h (i + 1) y (by simpa using hy)
      exact ⟨k1, F, by rw [show o + sz + i * sz = o + (i + 1) * sz by rw [Nat.add_mul]; omega]; exact k2, k3⟩)
    refine ⟨F ++ G, .cons h1 (by simpa using h2) h4, fun c hc => ?_⟩
    rcases List.mem_append.1 hc with hc | hc
    · exact h3 c hc
    · exact h5 c hc

theorem sameOp_eval {l c : Operand} (h : sameOp l c = true) (a : Act) : a.eval l = a.eval c := by
  unfold sameOp at h
  split at h
  · simp at h; rw [h]
  · simp at h; rw [h]
  · cases h

theorem madeCells_get {z : Array Value} {n k : Nat} (h : k < n) (hz : 0 < z.size) : (madeCells z n)[k]? = some (z[k % z.size]'(Nat.mod_lt _ hz)) := by
  simp [madeCells, h]
  rw [getElem!_pos z _ (Nat.mod_lt _ hz)]

theorem op_makeSlice (hT : TTok P) (hg : G E M σ a w) (hd : o.dst.all (fun d => Nat.blt d σ.n) = true) {t : Nat} {l c : Operand} (hop : o.op = .makeSlice t l c) {d : Nat} (hdst : o.dst = some d) {e : Nat} {i : TI} (ht : elemOf t = some (e, i))
    {k : IntKind} {n : Int} (hn : intOf (eval σ l) = some (k, n)) (hs : sameOp l c = true) {z : PV} (hz : ofLeaves i.ag i.zero = some z)
    (h : (stdA P).nn n (fun _ => (stdA P).fits n.toNat i.bytes (fun _ => mkF (stdA P) σ d (fun σ => K (put (putF σ d (.row (List.replicate n.toNat z) i.size .free false)) d (.own d none)))))) : o.wp P a w (Nx E K) Q := by
  obtain ⟨hn0, hfit, h⟩ := h
  obtain ⟨hlt, hio, hg1, hfr, hκ, hK⟩ := mkF_ok hg h
  have hc := cls_lt hlt
  obtain ⟨hu, inf, zv, cs, hi, hsz, hby, hzv, hzero, hcl, hone, hcells⟩ := elem_types hT ht
  have hv := intOf_val hn (eval_cl hg l)
  have hv' : a.eval c = .int k n := by rw [← sameOp_eval hs a]; exact hv
  have hnn : (n.toNat : Int) = n := Int.toNat_of_nonneg hn0
  have hb1 : n.toNat * i.bytes ≤ 140737488355328 := by rw [Nat.mul_add] at hfit; omega
  have hb2 : n.toNat ≤ 140737488355328 := by rw [Nat.mul_add] at hfit; omega
  have hb3 : (inf.bytes : Int) * n ≤ 281474976710656 := by
    rw [hby, ← hnn, Int.mul_comm, ← Int.natCast_mul]; omega
  have run := run_make (P := P) w t e inf zv hu hi hzv k k n n hn0 (Int.le_refl _) hb3 (by omega)
  have hlz : (leaves z) = i.zero := by
    unfold ofLeaves at hz
    split at hz
    · cases hz; rfl
    · split at hz
      · rename_i x hx
        cases hz
        rw [hx]
        rw [hzero] at hx
        cases cs with
        | nil => simp at hx
        | cons v cs => simp at hx; rw [← hx.1]; rfl
      · cases hz
  have hrow : ∃ F, RepRow (w.alloc (.cells (madeCells zv.cells (n.toNat * inf.size)) e (0, 0))) w.heap.size i.size 0 (List.replicate n.toNat z) F ∧ ∀ c ∈ F, False := by
    refine RepRow.of_get _ _ (fun j x hx => ?_)
    obtain ⟨hj, hx⟩ := List.getElem?_eq_some_iff.1 hx
    simp only [List.length_replicate] at hj
    rw [List.getElem_replicate] at hx
    subst hx
    refine ⟨by rw [hlz, hzero]; simpa using hcl, [], ?_, by simp⟩
    rw [hlz, hzero]
    refine (RepL.vals hone).cells _ hone (fun q v hq => ?_)
    rw [cell_of (alloc_new rfl _)]
    have hq' : q < cs.length := (List.getElem?_eq_some_iff.1 hq).1
    have h3 : j * i.size + q < n.toNat * i.size := by
      calc j * i.size + q < j * i.size + i.size := by omega
        _ = (j + 1) * i.size := by rw [Nat.add_mul, Nat.one_mul]
        _ ≤ n.toNat * i.size := Nat.mul_le_mul_right _ hj
    have hzs : zv.cells.size = i.size := by rw [hcells]; exact hcl
    rw [madeCells_get (by rw [hsz]; omega) (by rw [hzs]; omega)]
    have : (0 + j * i.size + q) % zv.cells.size = q := by rw [hzs, Nat.zero_add, Nat.mul_comm, Nat.mul_add_mod]; exact Nat.mod_eq_of_lt (by omega)
    simp only [this]
    have h5 := (List.getElem?_eq_some_iff.1 hq).2
    simp only [hcells]
    exact congrArg some h5
  obtain ⟨F, hF, hF0⟩ := hrow
  have hF1 : F = [] := by
    cases F with
    | nil => rfl
    | cons x F => exact (hF0 x (by simp)).elim
  subst hF1
  have hg2 := made_row hg1 (hfr d hc) (fun b => hκ d b hc) (noIo_none hio hc) (w1 := w) rfl rfl TapeLe.rfl' rfl hF (u := .free) rfl rfl (by simp [rubs])
  refine wp_val (v := .slice (some ⟨w.heap.size, 0, none⟩) n.toNat n.toNat) (w' := w.alloc (.cells (madeCells zv.cells (n.toNat * inf.size)) e (0, 0))) ?_ ?_
  · simp only [execOp, hop, hv, hv', Sem.run_bind, run]; rfl
  · rw [hdst]
    have := own_new (E := E) (M := M.drop d) (σ := retire (stdA P) σ d) (d := d) (b := w.heap.size) (es := List.replicate n.toNat z) (sz := i.size) (u := .free) (cap := n.toNat) (alloc_new (w := w) (w1 := w) rfl (.cells (madeCells zv.cells (n.toNat * inf.size)) e (0, 0))) (by simp) (by simp [size_madeCells, hsz])
    simp only [List.length_replicate] at this
    exact ⟨_, _, hg2.put (lt_of_dst hd hdst) this, hK⟩


theorem parts_rep (hg : G E M σ a w) {e : TI} : ∀ {ps : List (Nat × Operand)} {k : Nat} {es : List PV}, partsOf (stdA P) σ e k ps = some es →
    ps.map (fun x => (x.1, a.eval x.2)) = ((ps.map fun x => a.eval x.2).zipIdx k).map (fun x => (x.2, x.1)) ∧ es.length = ps.length ∧
    ∀ (i : Nat) (x : PV), es[i]? = some x → ∃ (y : Nat × Operand) (cs : List Value) (F : List Nat), (ps[i]?) = some y ∧ (a.eval y.2).cells = ⟨cs⟩ ∧ (leaves x).length = e.size ∧ RepL w (leaves x) cs F ∧ (∀ v ∈ cs, v.oneCell' = true) ∧ (isFree x = true → F = []) ∧ Good E M w (refs2 σ (eval σ y.2)) F
  | [], k, es, h => by simp [partsOf] at h; subst h; simp
  | (i, x) :: ps, k, es, h => by
    simp only [partsOf] at h
    split at h
    · rename_i hik
      subst hik
      split at h
      · rename_i r hr
        split at h
        · rename_i hl
          split at h
          · rename_i rs hrs
            cases h
            obtain ⟨h1, h2, h3⟩ := parts_rep hg hrs
            refine ⟨by simp [h1], by simp [h2], fun j y hj => ?_⟩
            cases j with
            | zero =>
              simp at hj; subst hj
              have hc : Cl2 E M σ w (eval σ x) (a.eval x) := by
                have := eval_cl hg x
                revert this hr
                cases eval σ x <;> first | exact fun _ h => h | (intro hr; simp [pv2, pv1] at hr)
              obtain ⟨F, hF, gF⟩ := pv2_rep hg hr hc
              obtain ⟨cs, c1, c2, c3⟩ := leaves_rep hF hl.2
              exact ⟨(i, x), cs, F, rfl, c1, hl.1, c2, c3, fun hfr => isFree_foot hF hfr, gF⟩
            | succ j =>
              simp at hj
              obtain ⟨y', cs, F, k1, k2⟩ := h3 j y hj
              exact ⟨y', cs, F, by simpa using k1, k2⟩
          · cases h
        · cases h
      · cases h
    · cases h

theorem op_buildSlice (hT : TTok P) (hg : G E M σ a w) (hd : o.dst.all (fun d => Nat.blt d σ.n) = true) {t n : Nat} {ps : Array (Nat × Operand)} (hop : o.op = .buildSlice t n ps) {d : Nat} (hdst : o.dst = some d) {e : Nat} {i : TI} (ht : elemOf t = some (e, i))
    (hn : ps.size = n ∧ n * i.size ≤ 16777216 ∧ i.size ≠ 0)
    (h : mkF (stdA P) σ d (fun σ => match partsOf (stdA P) σ i 0 ps.toList with
        | some es => K (put (putF σ d (.row es i.size (ruJoin .free (allFree es) (ps.toList.flatMap fun p => refs2 σ (eval σ p.2))) false)) d (.own d none))
        | none => False)) : o.wp P a w (Nx E K) Q := by
  obtain ⟨hlt, hio, hg1, hfr, hκ, hK⟩ := mkF_ok hg h
  obtain ⟨hn1, hn2, hn3⟩ := hn
  have hc := cls_lt hlt
  obtain ⟨hu, inf, zv, cs, hi, hsz, hby, hzv, hzero, hcl, hone, hcells⟩ := elem_types hT ht
  split at hK
  · rename_i es hes
    obtain ⟨h1, h2, h3⟩ := parts_rep hg1 hes
    have hlen : es.length = n := by rw [h2]; simpa using hn1
    have hpos : 0 < i.size := Nat.pos_of_ne_zero hn3
    -- the cells
    have hfill : ∃ c : Array Value, Instr.fill (fun j => some (j * inf.size, inf.size)) ((Array.range (n * inf.size)).map (zv.cells[· % zv.cells.size]!)) (ps.map fun (j, x) => (j, a.eval x)).toList = some c ∧ c.size = n * i.size ∧
        ∀ j v, (ps.toList[j]?).map (fun y => a.eval y.2) = some v → ∀ q u, v.cells[q]? = some u → q < i.size → c[j * i.size + q]? = some u := by
      have hps : (ps.map fun (j, x) => (j, a.eval x)).toList = (((ps.toList.map fun x => a.eval x.2).zipIdx 0).map fun x => (x.2, x.1)) := by
        rw [Array.toList_map]; exact h1
      obtain ⟨r, f1, f2, f3⟩ := Great.fill_dense (s := inf.size) (by omega) (ps.toList.map fun x => a.eval x.2) 0 ((Array.range (n * inf.size)).map (zv.cells[· % zv.cells.size]!)) (fun v hv => by
          obtain ⟨y, hy, rfl⟩ := List.mem_map.1 hv
          obtain ⟨j, hj, hjy⟩ := List.getElem_of_mem hy
          obtain ⟨y', cs', F, k1, k2, k3, k4, _⟩ := h3 j (es[j]'(by omega)) (List.getElem?_eq_getElem _)
          rw [List.getElem?_eq_getElem hj, hjy] at k1
          cases k1
          have := k4.length
          rw [k2, hsz]
          show cs'.length = _
          omega) (by simp [hn1])
      refine ⟨r, by rw [hps]; exact f1, by rw [f2]; simp [hsz], fun j v hv q u hq hlt => ?_⟩
      have hj : j < n := by
        cases hy : ps.toList[j]? with
        | none => simp [hy] at hv
        | some y => have := (List.getElem?_eq_some_iff.1 hy).1; simpa [hn1] using this
      rw [f3]
      have e1 : (j * i.size + q) / inf.size = j := by
        rw [hsz, Nat.mul_comm, Nat.mul_add_div hpos, Nat.div_eq_of_lt hlt, Nat.add_zero]
      have e2 : (j * i.size + q) % inf.size = q := by
        rw [hsz, Nat.mul_comm, Nat.mul_add_mod, Nat.mod_eq_of_lt hlt]
      have e3 : j * i.size + q < (0 + (ps.toList.map fun x => a.eval x.2).length) * inf.size := by
        simp only [List.length_map, Array.length_toList, hn1, Nat.zero_add, hsz]
        calc j * i.size + q < j * i.size + i.size := by omega
          _ = (j + 1) * i.size := by rw [Nat.add_mul, Nat.one_mul]
          _ ≤ n * i.size := Nat.mul_le_mul_right _ hj
      rw [if_pos ⟨by omega, e3⟩, e1, e2, Nat.sub_zero, List.getElem?_map, hv]
      exact hq
    obtain ⟨c, hc1, hc2, hc3⟩ := hfill
    have run : (Instr.buildSlice t n (ps.map fun (j, x) => (j, a.eval x))).run P w = .ok (.slice (some ⟨w.heap.size, 0, none⟩) n n) (w.alloc (.cells c e (0, 0))) := by
      by_cases hz : n * inf.size = 0
      · have hn0 : n = 0 := by
          rcases Nat.mul_eq_zero.1 hz with h | h
          · exact h
          · omega
        subst hn0
        have hps0 : ps = #[] := by simpa using hn1
        subst hps0
        have : c = #[] := by
          have : c.size = 0 := by simpa using hc2
          simpa using this
        subst this
        simp [Instr.buildSlice, run_underlying hu, sizeOf, typeInfo, hi, Instr.fill, newRow, Array.range_zero']
      · exact run_buildSlice w t e n _ c inf zv hu hi hzv (by rw [hsz]; omega) hz hc1
    have hrow : ∃ F, RepRow (w.alloc (.cells c e (0, 0))) w.heap.size i.size 0 es F ∧ ∀ b ∈ F, (b < w.heap.size ∧ (((M.drop d).κ b = none ∧ (E.w0.heap.size ≤ b ∨ E.R b)) ∨ ∃ id ∈ (ps.toList.flatMap fun p => refs2 (retire (stdA P) σ d) (eval (retire (stdA P) σ d) p.2)), (M.drop d).κ b = some id)) ∧ ¬ allFree es = true := by
      refine RepRow.of_get _ _ (fun j x hx => ?_)
      obtain ⟨y, cs', F, k1, k2, k3, k4, k5, k6, k7⟩ := h3 j x hx
      refine ⟨k3, F, ?_, fun b hb => ⟨?_, fun hall => ?_⟩⟩
      · have k8 : RepL (w.alloc (.cells c e (0, 0))) (leaves x) cs' F := k4.mono (fun b hb => by
          rw [alloc_heap, Array.getElem?_push, if_neg (by have := (k7 b hb).1; omega)])
        refine k8.cells _ k5 (fun q u hq => ?_)
        rw [cell_of (alloc_new rfl _), Nat.zero_add]
        have hq' : q < cs'.length := (List.getElem?_eq_some_iff.1 hq).1
        refine hc3 j (a.eval y.2) (by rw [k1]; rfl) q u (by rw [k2]; simpa using hq) (by have := k4.length; omega)
      · obtain ⟨g1, g2⟩ := k7 b hb
        refine ⟨g1, g2.imp (fun h => h) (fun ⟨id, hid, h⟩ => ⟨id, ?_, h⟩)⟩
        simp only [List.mem_flatMap]
        exact ⟨y, List.mem_of_getElem? k1, hid⟩
      · have := List.all_eq_true.1 hall x (List.mem_of_getElem? hx)
        rw [k6 this] at hb; simp at hb
    obtain ⟨F, hF, hF0⟩ := hrow
    have hdr : d ∉ (ps.toList.flatMap fun p => refs2 (retire (stdA P) σ d) (eval (retire (stdA P) σ d) p.2)) := by
      simp only [List.mem_flatMap, not_exists, not_and]
      exact fun y _ => fresh_refs2 (hfr d hc) (nr2_of_S (fresh_eval (hfr d hc) y.2))
    have hU : GoodU E (M.drop d) w d i.size es (ruJoin .free (allFree es) (ps.toList.flatMap fun p => refs2 (retire (stdA P) σ d) (eval (retire (stdA P) σ d) p.2))) F ∧ d ∉ rubs (ruJoin .free (allFree es) (ps.toList.flatMap fun p => refs2 (retire (stdA P) σ d) (eval (retire (stdA P) σ d) p.2))) := by
      unfold ruJoin
      cases hall : allFree es with
      | true =>
        refine ⟨?_, by simp [rubs]⟩
        cases F with
        | nil => exact rfl
        | cons x F => exact absurd hall (hF0 x (by simp)).2
      | false =>
        refine ⟨fun b hb => ?_, by simpa [rubs] using hdr⟩
        obtain ⟨g1, g2⟩ := (hF0 b hb).1
        exact ⟨g1, g2.imp (fun h => h) (fun ⟨id, hid, h⟩ => ⟨id, by simpa [rubs] using hid, h⟩)⟩
    have hg2 := made_row hg1 (hfr d hc) (fun b => hκ d b hc) (noIo_none hio hc) (w1 := w) rfl rfl TapeLe.rfl' rfl hF (by unfold ruJoin; split <;> rfl) hU.1 hU.2
    refine wp_val (v := .slice (some ⟨w.heap.size, 0, none⟩) n n) (w' := w.alloc (.cells c e (0, 0))) ?_ ?_
    · simp only [execOp, hop, Sem.run_bind, run]; rfl
    · rw [hdst]
      have := own_new (E := E) (M := M.drop d) (σ := retire (stdA P) σ d) (d := d) (b := w.heap.size) (es := es) (sz := i.size) (u := ruJoin .free (allFree es) (ps.toList.flatMap fun p => refs2 (retire (stdA P) σ d) (eval (retire (stdA P) σ d) p.2))) (cap := n) (alloc_new (w := w) (w1 := w) rfl (.cells c e (0, 0))) (by omega) (by omega)
      rw [hlen] at this
      exact ⟨_, _, hg2.put (lt_of_dst hd hdst) this, hK⟩
  · exact hK.elim

end ops
end Go.VAI

namespace Go.VAI
variable {E : Env} {P : Program}

theorem All2.splice {α β : Type} {p : α → β → Prop} {xs xs' : List α} {ys ys' : List β} (h : All2 p xs ys) (h' : All2 p xs' ys') (o : Nat) : All2 p (splice o xs' xs) (splice o ys' ys) := by
  unfold VAI.splice
  rw [h'.length]
  exact ((h.take o).append h').append (h.drop _)

theorem RepCells.of_get {w : World} {b : Nat} {FF : Nat → Prop} : ∀ (xs : List PV) (o : Nat), (∀ (j : Nat) (x : PV), xs[j]? = some x → ∃ v F, w.cell? ⟨b, o + j, none⟩ = some v ∧ v.oneCell' = true ∧ Rep w x v F ∧ ∀ c ∈ F, FF c) →
    ∃ F, RepCells w b o xs F ∧ ∀ c ∈ F, FF c
  | [], o, _ => ⟨[], .nil _ _, by simp⟩
  | x :: xs, o, h => by
    obtain ⟨v, F, h1, h2, h3, h4⟩ := h 0 x rfl
    obtain ⟨G, h5, h6⟩ := RepCells.of_get xs (o + 1) (fun j y hy => by
      obtain ⟨v, F, k1, k2⟩ := h (j + 1) y (by simpa using hy)
      exact ⟨v, F, by rw [show o + 1 + j = o + (j + 1) by omega]; exact k1, k2⟩)
    refine ⟨F ++ G, .cons (by simpa using h1) h2 h3 h5, fun c hc => ?_⟩
    rcases List.mem_append.1 hc with hc | hc
    · exact h4 c hc
    · exact h6 c hc

theorem RepL.get {w : World} : ∀ {xs : List PV} {vs : List Value} {F : List Nat}, RepL w xs vs F → ∀ {j : Nat} {x : PV} {v : Value}, xs[j]? = some x → vs[j]? = some v → ∃ G, Rep w x v G ∧ ∀ c ∈ G, c ∈ F
  | _, _, _, .nil, j, x, v, h, _ => by simp at h
  | _, _, _, .cons (F := F) h t, 0, x, v, hx, hv => by
    simp at hx hv; subst hx; subst hv
    exact ⟨F, h, fun c hc => by simp [hc]⟩
  | _, _, _, .cons (F := F) h t, j + 1, x, v, hx, hv => by
    obtain ⟨G, h1, h2⟩ := t.get (j := j) (by simpa using hx) (by simpa using hv)
    exact ⟨G, h1, fun c hc => by simp [h2 c hc]⟩

section ops
variable {M : Mp} {σ : St} {a : Act} {w : World} {o : Oper} {K : St → Prop} {Q : Exit → Act → World → Prop}

theorem turn_set (hg : G E M σ a w) {id : Nat} (hk : M.κ (M.blk id) = some id) {c : Array Value} {e : TypeId} (hc : w.heap[M.blk id]? = some (.cells c e (0, 0))) (p : Nat) (vs : List Value) : Turn E id M M w (w.setCells (M.blk id) p vs) where
  heap b hb hne := setCells_other _ _ (fun e => hne (by rw [e]; exact hk)) vs p w c e (0, 0) hc
  size := Nat.le_of_eq (setCells_rest _ vs p w).1.symm
  κ _ _ _ := rfl
  κo b j h h' := by rw [h] at h'; cases h'; exact rfl
  κn b j hb h := by have := (hg.own _ _ h); omega
  blk j hj := ⟨rfl, rfl⟩
  os := (setCells_rest _ vs p w).2.1
  tape := (setCells_rest _ vs p w).2.2.1
  out := (setCells_rest _ vs p w).2.2.2

theorem ofLeaves_leaves {ag : Bool} {ls : List PV} {x : PV} (h : ofLeaves ag ls = some x) (hn : ag = false → ∀ y ∈ ls, notAgg y = true) : leaves x = ls := by
  unfold ofLeaves at h
  cases ag with
  | true => simp at h; subst h; rfl
  | false =>
    simp only [Bool.false_eq_true, if_false] at h
    split at h
    · cases h
      have := hn rfl x (by simp)
      cases x <;> first | rfl | simp [notAgg] at this
    · cases h

theorem op_store_ref (hT : TTok P) (hg : G E M σ a w) (hd : o.dst.all (fun d => Nat.blt d σ.n) = true) {t : Nat} {x y : Operand} (hop : o.op = .store t x y) {i : TI} (ht : tt t = some i) {id p : Nat} (hx : eval σ x = .ref id p) {ls : List Slot} (hf : σ.files id = some (.cell ls))
    (hl : (sleaves (eval σ y)).length = i.size ∧ p + i.size ≤ ls.length ∧ (sleaves (eval σ y)).all (liveS σ))
    (h : K (putO (putF (kill false σ id) id (.cell (splice p ((sleaves (eval σ y)).map (kill1 false id)) (ls.map (kill1 false id))))) o.dst .undef)) : o.wp P a w (Nx E K) Q := by
  obtain ⟨cs, hv, h2⟩ := sleaves_cl (eval_cl hg y) hl.2.2
  obtain ⟨k1, c, e, k2, k3⟩ := hg.files _ _ hf
  have hxv := eval_cl hg x
  rw [hx] at hxv
  have hxv' := hxv _ hf
  have hlen : c.size = ls.length := by have := k3.length; simpa using this.symm
  have hcl : cs.length = i.size := by rw [← h2.length]; exact hl.1
  have hone : ∀ v ∈ cs, v.oneCell' = true := h2.one (fun s _ v hc => hc.2.1)
  have ht1 := turn_set hg k1 k2 p cs
  obtain ⟨c', k4, k5⟩ := setCells_heap (M.blk id) cs p w c e (0, 0) k2 (by omega)
  have hnoio : E.io id = none := by
    cases hq : E.io id with
    | none => rfl
    | some q => obtain ⟨b, o, n, sz⟩ := q; obtain ⟨⟨es, _, hf', _⟩, _⟩ := hg.io _ _ _ _ _ hq; rw [hf] at hf'; cases hf'
  have hsame : false = false → SameHdr M M w (w.setCells (M.blk id) p cs) id (.cell ls) (.cell (splice p ((sleaves (eval σ y)).map (kill1 false id)) (ls.map (kill1 false id)))) := fun _ => ⟨fun ls' _ => ⟨rfl, ls, rfl⟩, fun es sz u io hh => by cases hh⟩
  have tr := fun s v hc => ht1.cl1 (hdr := false) hg hf hsame (fun h => by cases h) s v hc
  have hg2 := hg.turn (hdr := false) ht1 hf hsame (fun h => by cases h)
    ⟨k1, c', e, k4, by
      rw [k5]
      refine All2.splice ?_ ?_ p
      · refine k3.imp (fun s v hc => ?_)
        rcases hc with hc | rfl
        · rcases noTup_kill1 (hdr := false) (id := id) (.inl hc.2.2) with hn | hn
          · exact .inl ⟨tr s v hc.1, hc.2.1, hn⟩
          · exact .inr hn
        · exact .inr rfl
      · refine h2.imp (fun s v hc => ?_)
        rcases noTup_kill1 (hdr := false) (id := id) (.inl hc.2.2) with hn | hn
        · exact .inl ⟨tr s v hc.1, hc.2.1, hn⟩
        · exact .inr hn⟩
    (fun b hk hb => hg.lent b id hb hk) (fun b hk hb => ⟨id, hg.lent b id hb hk⟩) (fun _ _ _ _ e hk => by first | (cases e; done) | (cases e; exact hg.iob _ _ _ _ _ hf hk)) (fun b o n sz hq => by rw [hnoio] at hq; cases hq)
  refine wp_skp (w' := w.setCells (M.blk id) p cs) ?_ ⟨_, _, hg2.putO hd undef_cl, h⟩
  have hrun := run_storeAt (P := P) (o := p) hT ht k2 hv hcl (by omega) hone
  simp only [execOp, hop, hxv', Sem.run_bind, hrun]
  rfl

theorem rep_val {w : World} {u v : Value} {F : List Nat} (h : Rep w (.val u) v F) : v = u := by cases h; rfl

theorem free_leaf {r x : PV} (hf : isFree r = true) (hx : x ∈ leaves r) (_ : notAgg x = true) : isVal x = true := by
  cases r with
  | val v => simp only [leaves, List.mem_singleton] at hx; subst hx; rfl
  | agg ls => exact List.all_eq_true.1 hf x hx
  | _ => simp [isFree] at hf

theorem op_store_rref (hT : TTok P) (hg : G E M σ a w) (hd : o.dst.all (fun d => Nat.blt d σ.n) = true) {t : Nat} {x y : Operand} (hop : o.op = .store t x y) {i : TI} (ht : tt t = some i) {id q p : Nat} (hx : eval σ x = .rref id q p) {es : List PV} {sz : Nat} {u : RU} {io : Bool}
    (hf : σ.files id = some (.row es sz u io)) {r : PV} (hr : pv2 (stdA P) σ (eval σ y) = some r) {z : PV} (hz : es[q]? = some z)
    (hl : i.size ≠ 0 ∧ (leaves r).length = i.size ∧ p + i.size ≤ (leaves z).length ∧ ¬ (refs2 σ (eval σ y)).elem id ∧ (leaves r).all notAgg ∧ ((!io && !isDeepU u) || isFree r))
    {z' : PV} (hz' : ofLeaves (isAg z) (splice p (leaves r) (leaves z)) = some z')
    (h : K (putO (putF (kill false σ id) id (.row (es.set q z') sz (ruJoin u (isFree r) (refs2 σ (eval σ y))) io)) o.dst .undef)) : o.wp P a w (Nx E K) Q := by
  obtain ⟨hl0, hl1, hl2, hl3, hl4, hl5⟩ := hl
  have hc2 : Cl2 E M σ w (eval σ y) (a.eval y) := by
    have := eval_cl hg y
    revert this hr
    cases eval σ y <;> first | exact fun _ h => h | (intro hr; simp [pv2, pv1] at hr)
  obtain ⟨Fr, hFr, gFr⟩ := pv2_rep hg hr hc2
  obtain ⟨cs, c1, c2, c3⟩ := leaves_rep hFr hl4
  obtain ⟨k0, k1, k2, F, k3, k4⟩ := hg.files _ _ hf
  have hq := (List.getElem?_eq_some_iff.1 hz).1
  obtain ⟨kk, c, e, kh⟩ := k2 (by intro e; rw [e] at hq; simp at hq)
  obtain ⟨g1, Gz, g2, g3⟩ := k3.get hz
  have hxv := eval_cl hg x
  rw [hx] at hxv
  have hxv' := hxv _ _ _ _ hf
  have hcl : cs.length = i.size := by rw [c2.length]; exact hl1
  have hle : M.off id + q * sz + p + cs.length ≤ c.size := by
    -- the last cell of the element is there
    obtain ⟨v, G', q1, _⟩ := g2.get (j := (leaves z).length - 1) (x := (leaves z)[(leaves z).length - 1]'(by omega)) (List.getElem?_eq_getElem _)
    rw [cell_of kh] at q1
    have := (Array.getElem?_eq_some_iff.1 q1).1
    omega
  have ht1 := turn_set hg kk kh (M.off id + q * sz + p) cs
  obtain ⟨c', k5, k6⟩ := setCells_heap (M.blk id) cs (M.off id + q * sz + p) w c e (0, 0) kh (by omega)
  have hid : id ∉ refs2 σ (eval σ y) := by simpa using hl3
  have hother : ∀ b, b ≠ M.blk id → (w.setCells (M.blk id) (M.off id + q * sz + p) cs).heap[b]? = w.heap[b]? := fun b hb => setCells_other _ _ hb cs _ w c e (0, 0) kh
  have hFsame : ∀ b ∈ F, (w.setCells (M.blk id) (M.off id + q * sz + p) cs).heap[b]? = w.heap[b]? := by
    cases u with
    | free => simp [GoodU] at k4; subst k4; simp
    | sh bs => exact ht1.rep k4 k1
    | deep z0 zs => exact fun b hb => hother b (k4.2 b hb).2.2
  have hFrsame := ht1.rep gFr hid
  have hsplen : (splice p (leaves r) (leaves z)).length = (leaves z).length := splice_length (by omega)
  have hlz : leaves z' = splice p (leaves r) (leaves z) := by
    refine ofLeaves_leaves hz' (fun hna y hy => ?_)
    have hzl : leaves z = [z] ∧ notAgg z = true := by cases z <;> first | exact ⟨rfl, rfl⟩ | simp [isAg] at hna
    unfold splice at hy
    simp only [List.mem_append] at hy
    rcases hy with (hm | hm) | hm
    · have hm := List.mem_of_mem_take hm; rw [hzl.1] at hm; simp at hm; subst hm; exact hzl.2
    · exact List.all_eq_true.1 hl4 _ hm
    · have hm := List.mem_of_mem_drop hm; rw [hzl.1] at hm; simp at hm; subst hm; exact hzl.2
  have hcell : ∀ k, (w.setCells (M.blk id) (M.off id + q * sz + p) cs).cell? ⟨M.blk id, k, none⟩ = if k < M.off id + q * sz + p then w.cell? ⟨M.blk id, k, none⟩ else if k < M.off id + q * sz + p + cs.length then cs[k - (M.off id + q * sz + p)]? else w.cell? ⟨M.blk id, k, none⟩ := by
    intro k
    rw [cell_of k5, cell_of kh, ← Array.getElem?_toList, k6, splice_get (by simpa using hle)]
    simp
  have hrow : ∃ F', RepRow (w.setCells (M.blk id) (M.off id + q * sz + p) cs) (M.blk id) sz (M.off id) (es.set q z') F' ∧ ∀ b ∈ F', b ∈ F ∨ b ∈ Fr := by
    refine RepRow.of_get _ _ (fun j x hj => ?_)
    rw [List.getElem?_set] at hj
    by_cases hqj : q = j
    · subst hqj
      rw [if_pos rfl, if_pos hq] at hj
      cases hj
      refine ⟨by rw [hlz, hsplen]; exact g1, ?_⟩
      rw [hlz]
      refine RepCells.of_get _ _ (fun m xm hm => ?_)
      rw [splice_get (by omega)] at hm
      have hc := hcell (M.off id + q * sz + m)
      split at hm
      · rename_i hlt
        obtain ⟨v, G', q1, q2, q3, q4⟩ := g2.get hm
        exact ⟨v, G', by rw [hc, if_pos (by omega)]; exact q1, q2, q3.mono (fun b hb => hFsame b (g3 b (q4 b hb))), fun b hb => .inl (g3 b (q4 b hb))⟩
      · rename_i hge
        split at hm
        · rename_i hlt
          have hmc : m - p < cs.length := by omega
          obtain ⟨G', q3, q4⟩ := c2.get hm (List.getElem?_eq_getElem hmc)
          refine ⟨cs[m - p], G', ?_, c3 _ (List.getElem_mem _), q3.mono (fun b hb => hFrsame b (q4 b hb)), fun b hb => .inr (q4 b hb)⟩
          rw [hc, if_neg (by omega), if_pos (by omega), show M.off id + q * sz + m - (M.off id + q * sz + p) = m - p by omega, List.getElem?_eq_getElem hmc]
        · obtain ⟨v, G', q1, q2, q3, q4⟩ := g2.get hm
          exact ⟨v, G', by rw [hc, if_neg (by omega), if_neg (by omega)]; exact q1, q2, q3.mono (fun b hb => hFsame b (g3 b (q4 b hb))), fun b hb => .inl (g3 b (q4 b hb))⟩
    · rw [if_neg hqj] at hj
      obtain ⟨f1, G', f2, f3⟩ := k3.get hj
      refine ⟨f1, G', ?_, fun b hb => .inl (f3 b hb)⟩
      refine f2.cells (fun m m1 m2 => ?_) (fun b hb => hFsame b (f3 b hb))
      rw [hcell m]
      rcases Nat.lt_or_gt_of_ne hqj with hlt | hgt
      · have : (q + 1) * sz ≤ j * sz := Nat.mul_le_mul_right _ hlt
        rw [Nat.add_mul, Nat.one_mul] at this
        rw [if_neg (by omega), if_neg (by omega)]
      · have : (j + 1) * sz ≤ q * sz := Nat.mul_le_mul_right _ hgt
        rw [Nat.add_mul, Nat.one_mul] at this
        rw [if_pos (by omega)]
  obtain ⟨F', hF', hFF⟩ := hrow
  have hsz' : c'.size = c.size := by rw [← Array.length_toList, k6, splice_length (by simpa using hle)]; simp
  have hsame : false = false → SameHdr M M w (w.setCells (M.blk id) (M.off id + q * sz + p) cs) id (.row es sz u io) (.row (es.set q z') sz (ruJoin u (isFree r) (refs2 σ (eval σ y))) io) := fun _ =>
    ⟨fun ls' hh => (by cases hh), fun es' sz' u' io' hh => by
      cases hh
      refine ⟨rfl, rfl, es, u, rfl, by simp, fun oo l v hh => ?_⟩
      obtain ⟨aa, cap, e1, e2, e3, e4, e5⟩ := hh
      refine ⟨aa, cap, e1, e2, e3, e4, fun h0 => ?_⟩
      obtain ⟨f1, f2, c1', e', f3, f4⟩ := e5 h0
      rw [kh] at f3; cases f3
      exact ⟨f1, f2, c', _, k5, by rw [hsz']; exact f4⟩⟩
  have hU : GoodU E M (w.setCells (M.blk id) (M.off id + q * sz + p) cs) id sz (es.set q z') (ruJoin u (isFree r) (refs2 σ (eval σ y))) F' := by
    unfold ruJoin
    cases hfr : isFree r with
    | true =>
      have := isFree_foot hFr hfr
      subst this
      have hsub : ∀ b ∈ F', b ∈ F := fun b hb => (hFF b hb).elim (fun h => h) (fun h => by simp at h)
      cases u with
      | free =>
        simp only [GoodU] at k4; subst k4
        cases F' with
        | nil => exact rfl
        | cons x F' => have := hsub x (by simp); simp at this
      | sh bs => exact (ht1.good k4 k1).mono hsub
      | deep z0 zs =>
        obtain ⟨⟨N, d1, d2, d3⟩, k6'⟩ := k4
        have hsize : (w.setCells (M.blk id) (M.off id + q * sz + p) cs).heap.size = w.heap.size := (setCells_rest _ cs _ w).1
        refine ⟨?_, fun c hc => by rw [hsize]; exact k6' c (hsub c hc)⟩
        have hNs : ∀ c ∈ N, (w.setCells (M.blk id) (M.off id + q * sz + p) cs).heap[c]? = w.heap[c]? := fun c hc => hother c (d3 c hc).2.2
        have hout : ∀ k, (k < M.off id + q * sz + p ∨ M.off id + q * sz + p + cs.length ≤ k) → (w.setCells (M.blk id) (M.off id + q * sz + p) cs).cell? ⟨M.blk id, k, none⟩ = w.cell? ⟨M.blk id, k, none⟩ := fun k hk => by
          rw [hcell k]
          rcases hk with hk | hk
          · rw [if_pos hk]
          · rw [if_neg (by omega), if_neg (by omega)]
        have hval : ∀ (j : Nat) (y : PV), (leaves r)[j]? = some y → ∃ v, y = .val v ∧ v.oneCell' = true ∧ (w.setCells (M.blk id) (M.off id + q * sz + p) cs).cell? ⟨M.blk id, M.off id + q * sz + p + j, none⟩ = some v := by
          intro j y hy
          have hj := (List.getElem?_eq_some_iff.1 hy).1
          have hjc : j < cs.length := by omega
          obtain ⟨G', q3, q4⟩ := c2.get hy (List.getElem?_eq_getElem hjc)
          have hv : isVal y = true := free_leaf hfr (List.mem_of_getElem? hy) (List.all_eq_true.1 hl4 _ (List.mem_of_getElem? hy))
          cases y with
          | val u0 =>
            refine ⟨u0, rfl, by have := c3 _ (List.getElem_mem hjc); rwa [rep_val q3] at this, ?_⟩
            rw [hcell, if_neg (by omega), if_pos (by omega), show M.off id + q * sz + p + j - (M.off id + q * sz + p) = j by omega, List.getElem?_eq_getElem hjc, rep_val q3]
          | _ => simp [isVal] at hv
        obtain ⟨n1, n2, n3, e0, a1, a2, a3⟩ := d1.open (p := p) (k := (leaves r).length) hz (by omega)
        subst e0
        have hlen : p + (leaves r).length ≤ (leaves z).length := by omega
        have hpl : (preF es q p z).length = q * sz + p := preF_len d1.1 hq (by omega)
        refine ⟨n1 ++ ([] ++ n3), RowO.close (ys := leaves r) d1.1 hz hlen (by rw [hlz]; unfold splice; rw [List.append_assoc]) (a1.mono (fun j j1 j2 => hout j (.inl (by omega))) (fun y v n h hn => h.mono (fun c h => h.elim) (fun c hc => hNs c (by simp [hn c hc])))) (CellsO.vals (fun v => ⟨rfl, rfl⟩) hval) (a3.mono (fun j j1 j2 => hout j (.inr (by omega))) (fun y v n h hn => h.mono (fun c h => h.elim) (fun c hc => hNs c (by simp [hn c hc])))), ?_, fun c hc => ?_⟩
        · refine List.Nodup.sublist ?_ d2
          exact List.Sublist.append (List.Sublist.refl _) (List.Sublist.append (List.nil_sublist _) (List.Sublist.refl _))
        · rw [hsize]
          refine d3 c ?_
          simp only [List.nil_append, List.mem_append] at hc ⊢
          exact hc.imp (fun h => h) .inr
    | false =>
      intro b hb
      rcases hFF b hb with hb | hb
      · cases u with
        | free => simp only [GoodU] at k4; subst k4; simp at hb
        | sh bs => exact (ht1.good k4 k1).more (fun j hj => by simp [rubs, hj]) b hb
        | deep z0 zs => rw [hfr] at hl5; simp [isDeepU] at hl5
      · exact (ht1.good gFr hid).more (fun j hj => by simp [hj]) b hb
  have hrub : id ∉ rubs (ruJoin u (isFree r) (refs2 σ (eval σ y))) := by
    unfold ruJoin
    split
    · exact k1
    · simp only [rubs, List.mem_append, not_or]; exact ⟨hid, k1⟩
  have hg2 := hg.turn (hdr := false) ht1 hf hsame (fun h => by cases h)
    ⟨k0, hrub, fun _ => ⟨kk, c', e, k5⟩, F', hF', hU⟩
    (fun b hk hb => hg.lent b id hb hk) (fun b hk hb => ⟨id, hg.lent b id hb hk⟩) (fun _ _ _ _ e hk => by first | (cases e; done) | (cases e; exact hg.iob _ _ _ _ _ hf hk)) (fun b oo n sz' hqq => by
      obtain ⟨⟨es', _, hf', hnu, hn⟩, i1, i2, i3, c0, ci, ei, i4, i5, i6, i7⟩ := hg.io _ _ _ _ _ hqq
      rw [hf] at hf'
      cases hf'
      have hfr : isFree r = true := by simpa using hl5
      refine ⟨⟨es.set q z', _, by simp only [ruJoin, hfr, if_true], hnu, by simpa using hn⟩, i1, i2, i3, c0, c', ei, i4, ?_, ?_, fun j hj => ?_⟩
      · rw [← i1, k5]; rw [← i1, kh] at i5; cases i5; rfl
      · rw [← i1, kh] at i5; cases i5; omega
      · rw [← i1, kh] at i5; cases i5
        rw [← i7 j hj]
        have := hcell j
        rw [cell_of k5, cell_of kh] at this
        rw [this]
        have hqs : (q + 1) * sz ≤ es.length * sz := Nat.mul_le_mul_right _ hq
        rw [Nat.add_mul, Nat.one_mul] at hqs
        rw [hn] at hqs
        rcases hj with hj | hj
        · rw [if_pos (by omega)]
        · rw [if_neg (by omega), if_neg (by omega)])
  refine wp_skp (w' := w.setCells (M.blk id) (M.off id + q * sz + p) cs) ?_ ⟨_, _, hg2.putO hd undef_cl, h⟩
  have hrun := run_storeAt (P := P) hT ht kh c1 hcl hle c3
  simp only [execOp, hop, hxv', Sem.run_bind, hrun]
  rfl

end ops
end Go.VAI

namespace Go.VAI
variable {E : Env} {P : Program}

/-- A slice value whose cells are these. -/
def Reads (w : World) (sz : Nat) (v : Value) (n : Nat) (cs : List Value) : Prop :=
  ∃ a c, v = .slice a n c ∧ cs.length = n * sz ∧ (∀ b, a = some b → ∀ j u, cs[j]? = some u → w.cell? (b.add j) = some u) ∧ (a = none → cs = [])

theorem Reads.run {w : World} {sz : Nat} {v : Value} {n : Nat} {cs : List Value} (h : Reads w sz v n cs) {w1 : World} (hw : ∀ a, w1.cell? a = w.cell? a) : (Builtin.firstCells sz n v).run P w1 = .ok cs.toArray w1 := by
  obtain ⟨a, c, rfl, hl, hc, hn⟩ := h
  cases a with
  | none => rw [hn rfl]; exact run_firstCells_none w1 sz n n c
  | some b => exact run_firstCells_some w1 sz n b n c cs hl (fun j u hj => by rw [hw]; exact hc b rfl j u hj)

theorem Reads.lenOf {w : World} {sz : Nat} {v : Value} {n : Nat} {cs : List Value} (h : Reads w sz v n cs) {w1 : World} : (Builtin.lenOf v).run P w1 = .ok n w1 := by
  obtain ⟨a, c, rfl, _⟩ := h
  simp [Builtin.lenOf]

theorem run_append_stay {w : World} {t ty e : TypeId} {i : TypeInfo} (ht : P.underlying t = some (.slice e)) (hi : P.info? e = some i) {base : Option Addr} {l cap n : Nat} {y : Value} {news : List Value}
    (hy : Reads w i.size y n news) (hle : l + n ≤ cap) : (Builtin.append_ #[t, t] ty #[.slice base l cap, y]).run P w = (match base with
      | some b => (storeCells (b.add (l * i.size)) news).run P w
      | none => .ok () w).andThen fun _ w' => .ok (.slice base (l + n) cap) w' := by
  have h1 := hy.run (P := P) (w1 := w) (fun _ => rfl)
  have h2 := hy.lenOf (P := P) (w1 := w)
  cases base <;> simp [Builtin.append_, run_underlying ht, sizeOf, typeInfo, hi, h1, h2, hle]

theorem run_append_move {w : World} {t ty e : TypeId} {i : TypeInfo} {z : Value} (ht : P.underlying t = some (.slice e)) (hi : P.info? e = some i) (hz : i.zero = some z) {base : Option Addr} {l cap n : Nat} {y : Value} {olds news : List Value}
    (hx : Reads w i.size (.slice base l cap) l olds) (hy : Reads w i.size y n news) (hgt : cap < l + n) (hfit : (l + n) * (i.bytes + 1) ≤ 140737488355328) :
    (Builtin.append_ #[t, t] ty #[.slice base l cap, y]).run P w = .ok (.slice (some ⟨w.heap.size, 0, none⟩) (l + n) (grownCap w (l + n) cap e))
      (w.drew.alloc (.cells (olds.toArray ++ news.toArray ++ Builtin.zeroCells z.cells (grownCap w (l + n) cap e - (l + n))) e)) := by
  have h1 := hy.run (P := P) (w1 := w.drew) (fun _ => rfl)
  have h2 := hy.lenOf (P := P) (w1 := w)
  have h3 := hx.run (P := P) (w1 := w.drew) (fun _ => rfl)
  have hn : ¬ (l + n ≤ cap) := by omega
  rw [Nat.mul_add, Nat.mul_one] at hfit
  have h63' : ¬ (9223372036854775807 < ((l : Int) + (n : Int))) := by omega
  have h48' : ¬ (281474976710656 < Builtin.nextslicecap (l + n) cap * i.bytes) := by
    have := growslice_fits (need := l + n) (old := cap) (bytes := i.bytes) hgt (by omega)
    omega
  simp [Builtin.append_, run_underlying ht, sizeOf, typeInfo, zeroValue, hi, hz, hn, h63', h48', Question.forced, h1, h2, h3, newRow, grownCap]
  congr 2
  apply Array.ext'
  simp [List.append_assoc]

section ops
variable {M : Mp} {σ : St} {a : Act} {w : World} {o : Oper} {K : St → Prop} {Q : Exit → Act → World → Prop}

/-- What is known of the elements that an append takes over. -/
structure Wid (E : Env) (M : Mp) (w : World) (sz : Nat) (v : Value) (ys : List PV) (fl : Bool) (bs : List Nat) : Prop where
  cells : ∃ news F, Reads w sz v ys.length news ∧ (∀ u ∈ news, u.oneCell' = true) ∧ (fl = true → F = []) ∧ Good E M w bs F ∧
    ∀ (w' : World) (b' o' : Nat), (∀ (j : Nat) (v : Value), news[j]? = some v → w'.cell? ⟨b', o' + j, none⟩ = some v) → (∀ c ∈ F, w'.heap[c]? = w.heap[c]?) → RepRow w' b' sz o' ys F

theorem wid_row {M : Mp} {w : World} {sz b p cap : Nat} {ys : List PV} {F : List Nat} {fl : Bool} {bs : List Nat} (hr : RepRow w b sz p ys F) (hfl : fl = true → F = []) (hG : Good E M w bs F) : Wid E M w sz (.slice (some ⟨b, p, none⟩) ys.length cap) ys fl bs := by
  obtain ⟨news, h1, h2, h3, h4⟩ := hr.values
  exact ⟨news, F, ⟨_, _, rfl, h1, fun b' e j u hj => by cases e; rw [add_addr]; exact h3 j u hj, fun e => by cases e⟩, h2, hfl, hG, h4⟩

theorem wid_nil {M : Mp} {w : World} {sz cap : Nat} {a0 : Option Addr} {fl : Bool} {bs : List Nat} : Wid E M w sz (.slice a0 0 cap) [] fl bs :=
  ⟨[], [], ⟨_, _, rfl, by simp, fun _ _ j u hj => by simp at hj, fun _ => rfl⟩, by simp, fun _ => rfl, fun b hb => by simp at hb, fun _ _ _ _ _ => .nil _ _ _⟩

theorem wid_ok (hg : G E M σ a w) {e : TI} {y : Slot} {v : Value} (hv : ClS E M σ w y v) {K' : List PV → Bool → List Nat → Prop} (h : widS (stdA P) σ e y K') : ∃ ys fl bs, Wid E M w e.size v ys fl bs ∧ K' ys fl bs := by
  unfold widS at h
  split at h
  · rename_i id sub
    split at h
    · rename_i es sz u io hf
      split at h
      · rename_i hs
        rw [← hs]
        obtain ⟨k0, k1, k2, F, k3, k4⟩ := hg.files _ _ hf
        have hfl : (isFreeU u) = true → F = [] := by
          intro hu; cases u with
          | free => exact k4
          | sh bs => simp [isFreeU] at hu
          | deep z0 zs => simp [isFreeU] at hu
        have hG : Good E M w (rubsW id u) F := by
          cases u with
          | free => simp only [GoodU] at k4; subst k4; intro b hb; simp at hb
          | sh bs => exact k4
          | deep z0 zs => exact fun b hb => ⟨(k4.2 b hb).2.1, .inr ⟨id, by simp [rubsW], (k4.2 b hb).1⟩⟩
        have fin : ∀ o0 l, Hdr M w id es.length sz o0 l v → Wid E M w sz v ((es.drop o0).take l) (isFreeU u) (rubsW id u) := by
          intro o0 l hh
          obtain ⟨a0, cap, rfl, h1, h2, h3, h4⟩ := hh
          by_cases hl : l = 0
          · subst hl; simp only [List.take_zero]; exact wid_nil
          · obtain ⟨rfl, _⟩ := h4 (by omega)
            obtain ⟨G1, g1, g2⟩ := k3.drop o0 (by omega)
            obtain ⟨G2, g3, g4⟩ := g1.take l
            have := wid_row (E := E) (M := M) (cap := cap) g3 (fl := (isFreeU u)) (bs := rubsW id u) (fun hu => by
              have := hfl hu; subst this
              cases G2 with
              | nil => rfl
              | cons x G2 => have := g2 _ (g4 x (by simp)); simp at this) (hG.mono fun b hb => g2 b (g4 b hb))
            have hlen : ((es.drop o0).take l).length = l := by simp; omega
            rw [hlen] at this
            exact this
        cases sub with
        | none =>
          refine ⟨_, _, _, ?_, h⟩
          have := fin 0 es.length (hv _ _ _ _ hf)
          rwa [sub_full] at this
        | some p =>
          obtain ⟨o0, l⟩ := p
          exact ⟨_, _, _, fin o0 l (hv _ _ _ _ hf), h⟩
      · exact h.elim
    · exact h.elim
  · rename_i es bs
    obtain ⟨hw, h⟩ := h
    refine ⟨_, _, _, ?_, h⟩
    obtain ⟨F, h1, h2⟩ := hv
    cases h1 with
    | nil a0 cap => exact wid_nil
    | sl hne hcap hr =>
      rename_i b p sz cap F
      obtain ⟨x, hx⟩ := List.exists_mem_of_ne_nil _ hne
      obtain ⟨n, hn, hnx⟩ := List.getElem_of_mem hx
      have hsz : sz = e.size := by
        have := (hr.get (i := n) (x := x) (by rw [List.getElem?_eq_getElem hn, hnx])).1
        rw [← this]; exact (hw x hx).1
      subst hsz
      by_cases hfl : eFree e = true
      · -- the elements meet no block
        have hfree : ∀ x ∈ es, isFree x = true := fun x hx => (hw x hx).2 hfl
        have : ∃ F', RepRow w b e.size p es F' ∧ ∀ c ∈ F', False := by
          refine RepRow.of_get _ _ (fun j x hj => ?_)
          obtain ⟨l1, G1, l2, l3⟩ := hr.get hj
          refine ⟨l1, ?_⟩
          refine RepCells.of_get _ _ (fun m y hm => ?_)
          obtain ⟨v', G', q1, q2, q3, q4⟩ := l2.get hm
          have hy : isFree y = true := by
            have hx := hfree x (List.mem_of_getElem? hj)
            have hym := List.mem_of_getElem? hm
            cases x with
            | val v0 => simp [leaves] at hym; subst hym; exact hx
            | agg ls =>
              simp only [isFree, List.all_eq_true] at hx
              have := hx y hym
              cases y <;> simp [isVal] at this
              rfl
            | _ => simp [isFree] at hx
          have := isFree_foot q3 hy
          subst this
          exact ⟨v', [], q1, q2, q3, by simp⟩
        obtain ⟨F', hF', hF0⟩ := this
        have : F' = [] := by
          cases F' with
          | nil => rfl
          | cons x F' => exact (hF0 x (by simp)).elim
        subst this
        exact wid_row hF' (fun _ => rfl) (fun b hb => by simp at hb)
      · exact wid_row hr (fun h => absurd h hfl) (h2.mono fun c hc => by simp [hc])
  · refine ⟨_, _, _, ?_, h⟩
    obtain ⟨F, h1, h2⟩ := hv
    cases h1
    exact wid_nil
  · exact h.elim

theorem array2 {α : Type} {a : Array α} {x y : α} (h : a.toList = [x, y]) : a = #[x, y] := by cases a; simp at h; rw [h]

theorem run_append_op {c : Call} (hop : o.op = .call c) (hc : c.callee = .builtin .append) {x y : Operand} (hx : c.args.toList = [x, y]) {t : Nat} (htt : c.argTypes.toList = [t, t]) {v : Value} {w' : World}
    (h : (Builtin.append_ #[t, t] o.type #[a.eval x, a.eval y]).run P w = .ok v w') : (execOp a.eval o).run P w = .ok (.value v) w' := by
  simp [execOp, hop, resolve, hc, invoke, builtin, array2 hx, array2 htt, h]

theorem repRow_prefix {w w' : World} {b sz p n : Nat} {es : List PV} {F : List Nat} (h : RepRow w b sz p es F) (hc : ∀ j, j < p + n * sz → w'.cell? ⟨b, j, none⟩ = w.cell? ⟨b, j, none⟩) (hF : ∀ c ∈ F, w'.heap[c]? = w.heap[c]?) :
    ∃ F', RepRow w' b sz p (es.take n) F' ∧ ∀ c ∈ F', c ∈ F := by
  obtain ⟨F', h1, h2⟩ := h.take n
  refine ⟨F', h1.cells (fun j j1 j2 => hc j ?_) (fun c hc => hF c (h2 c hc)), h2⟩
  have : (es.take n).length * sz ≤ n * sz := Nat.mul_le_mul_right _ (by simp; omega)
  omega

theorem goodU_join {M' : Mp} {w' : World} {id sz : Nat} {es : List PV} {u : RU} {fl : Bool} {bs F1 F2 F : List Nat} (hnd : isDeepU u = false) (h1 : GoodU E M' w' id sz es u F1) (h2 : Good E M' w' bs F2) (hfl : fl = true → F2 = []) (hF : ∀ c ∈ F, c ∈ F1 ∨ c ∈ F2) : GoodU E M' w' id sz es (ruJoin u fl bs) F := by
  unfold ruJoin
  cases fl with
  | true =>
    have := hfl rfl; subst this
    have hsub : ∀ c ∈ F, c ∈ F1 := fun c hc => (hF c hc).elim (fun h => h) (fun h => by simp at h)
    cases u with
    | free =>
      simp only [GoodU] at h1; subst h1
      cases F with
      | nil => exact rfl
      | cons x F => have := hsub x (by simp); simp at this
    | sh bs' => exact h1.mono hsub
    | deep z0 zs => cases hnd
  | false =>
    intro b hb
    rcases hF b hb with hb | hb
    · cases u with
      | free => simp only [GoodU] at h1; subst h1; simp at hb
      | sh bs' => exact h1.more (fun j hj => by simp [rubs, hj]) b hb
      | deep z0 zs => cases hnd
    · exact h2.more (fun j hj => by simp [hj]) b hb

theorem rub_join {u : RU} {fl : Bool} {bs : List Nat} {id : Nat} (h1 : id ∉ rubs u) (h2 : id ∉ bs) : id ∉ rubs (ruJoin u fl bs) := by
  unfold ruJoin
  split
  · exact h1
  · simp only [rubs, List.mem_append, not_or]; exact ⟨h2, h1⟩

def Mp.move (M : Mp) (id b : Nat) : Mp := { κ := fun c => if c = b then some id else if M.κ c = some id then none else M.κ c, blk := fun j => if j = id then b else M.blk j, off := fun j => if j = id then 0 else M.off j }

theorem turn_move (hg : G E M σ a w) {id : Nat} {w1 : World} (h1 : w1.heap = w.heap) (h2 : w1.os = w.os) (h3 : TapeLe w w1) (h4 : w1.output = w.output) (ob : Obj) : Turn E id M (M.move id w.heap.size) w (w1.alloc ob) where
  heap b hb _ := by
    rw [alloc_heap, h1, Array.getElem?_push]
    rw [if_neg (by omega)]
  size := by rw [World.size_alloc, h1]; omega
  κ b hb hne := by simp [Mp.move, show b ≠ w.heap.size by omega, hne]
  κo b j h h' := by
    have := (hg.own _ _ h)
    simp only [Mp.move, h, if_neg (show b ≠ w.heap.size by omega)] at h'
    simp at h'
  κn b j hb h := by
    simp only [Mp.move] at h ⊢
    by_cases hc : b = w.heap.size
    · rw [if_pos hc] at h; cases h; exact ⟨rfl, by rw [World.size_alloc, h1]; omega⟩
    · rw [if_neg hc] at h
      split at h
      · cases h
      · have := (hg.own _ _ h)
        omega
  blk j hj := by simp [Mp.move, hj]
  os := by rw [← h2]; rfl
  tape := h3
  out := by rw [← h4]; rfl

/-- append to a row of the call's own: elements 0 .. l of it stay. -/
theorem op_append_own (hT : TTok P) (hg : G E M σ a w) {d : Nat} (hdst : o.dst = some d) (hdn : d < σ.n) {c : Call} (hop : o.op = .call c) (hc : c.callee = .builtin .append) {x y : Operand} (hx : c.args.toList = [x, y]) {t : Nat} (htt : c.argTypes.toList = [t, t])
    {e : Nat} {i : TI} (ht : elemOf t = some (e, i)) {id : Nat} {es : List PV} {u : RU} (hf : σ.files id = some (.row es i.size u false)) {l : Nat} (hh : Hdr M w id es.length i.size 0 l (a.eval x)) {ys : List PV} {fl : Bool} {bs : List Nat} (hw : Wid E M w i.size (a.eval y) ys fl bs)
    (hnd : isDeepU u = false) (hid : id ∉ bs) (hfit : (l + ys.length) * (i.bytes + 1) ≤ 140737488355328) (h : K (put (putF (kill true σ id) id (.row (es.take l ++ ys) i.size (ruJoin u fl bs) false)) d (.own id none))) : o.wp P a w (Nx E K) Q := by
  obtain ⟨a0, cap, hv, h1, h2, h3, h4⟩ := hh
  obtain ⟨k0, k1, k2, F, k3, k4⟩ := hg.files _ _ hf
  obtain ⟨news, Fy, hr, hone, hfl, hG, htr⟩ := hw.cells
  obtain ⟨hu, inf, zv, cs, hi, hsz, hby, hzv, hzero, hcl, _, hcells⟩ := elem_types hT ht
  have hoff := k0 rfl
  rw [hoff] at k3
  simp only [Nat.zero_mul, Nat.add_zero, hoff, Nat.zero_add] at h4
  have hnews : news.length = ys.length * i.size := by obtain ⟨_, _, _, hl, _⟩ := hr; exact hl
  have hnoio : E.io id = none := by
    cases hq : E.io id with
    | none => rfl
    | some q => obtain ⟨b, o, n, sz⟩ := q; obtain ⟨⟨es', _, hf', _⟩, _⟩ := hg.io _ _ _ _ _ hq; rw [hf] at hf'; cases hf'
  have hframe : ∀ b, M.κ b = some id → b < E.w0.heap.size → ∃ i, E.lentB i b := fun b hk hb => ⟨id, hg.lent b id hb hk⟩
  have hlen : (es.take l ++ ys).length = l + ys.length := by simp; omega
  by_cases hle : l + ys.length ≤ cap
  · -- it fits
    have run1 := run_append_stay (P := P) (w := w) (t := t) (ty := o.type) hu hi (base := a0) (l := l) (cap := cap) (by rw [hsz]; exact hr) hle
    by_cases hcap : cap = 0
    · -- nothing is there and nothing comes
      have hl0 : l = 0 := by omega
      have hy0 : ys = [] := by apply List.eq_nil_of_length_eq_zero; omega
      subst hl0; subst hy0
      have hn0 : news = [] := by apply List.eq_nil_of_length_eq_zero; simpa using hnews
      subst hn0
      have hes0 : es = [] := by apply List.eq_nil_of_length_eq_zero; omega
      subst hes0
      have ht1 : Turn E id M M w w := ⟨fun _ _ _ => rfl, Nat.le_refl _, fun _ _ _ => rfl, fun b j h h' => by rw [h] at h'; cases h'; exact rfl, fun b j hb h => by have := (hg.own _ _ h); omega, fun _ _ => ⟨rfl, rfl⟩, rfl, TapeLe.rfl', rfl⟩
      have hg2 := hg.turn (hdr := true) ht1 hf (f' := .row ([].take 0 ++ []) i.size (ruJoin u fl bs) false) (fun h => by cases h) (fun _ ls => ⟨by simp, by simp⟩)
        ⟨fun _ => hoff, rub_join k1 hid, fun h => by simp at h, [], by simpa using .nil _ _ _, by
          unfold ruJoin; split
          · cases u with
            | free => exact rfl
            | sh bs => intro b hb; simp at hb
            | deep z0 zs => cases hnd
          · intro b hb; simp at hb⟩
        (fun b hk hb => hg.lent b id hb hk) hframe (fun _ _ _ _ e hk => by first | (cases e; done) | (cases e; exact hg.iob _ _ _ _ _ hf hk)) (fun b oo n sz' hq => by rw [hnoio] at hq; cases hq)
      refine wp_val (v := .slice a0 0 cap) (w' := w) (run_append_op hop hc hx htt (by rw [hv, run1]; cases a0 <;> simp [storeCells])) ?_
      rw [hdst]
      refine ⟨_, _, hg2.put hdn (s := .own id none) (fun es' sz' u' io' hf' => ?_), h⟩
      rcases putF_files.1 hf' with ⟨_, e⟩ | ⟨e, _⟩
      · cases e
        exact ⟨a0, cap, by simp, by simp, by simp, by simp, fun h0 => absurd hcap h0⟩
      · exact absurd rfl e
    · obtain ⟨rfl, g1, c0, e0, g2, g3⟩ := h4 hcap
      have hle2 : l * i.size + news.length ≤ c0.size := by
        rw [hnews, ← Nat.add_mul]
        exact Nat.le_trans (Nat.mul_le_mul_right _ hle) g3
      obtain ⟨c', s1, s2⟩ := setCells_heap (M.blk id) news (l * i.size) w c0 e0 (0, 0) g2 hle2
      have hsz' : c'.size = c0.size := by rw [← Array.length_toList, s2, splice_length (by simpa using hle2)]; simp
      have ht1 := turn_set hg g1 g2 (l * i.size) news
      have hcell : ∀ k, (w.setCells (M.blk id) (l * i.size) news).cell? ⟨M.blk id, k, none⟩ = if k < l * i.size then w.cell? ⟨M.blk id, k, none⟩ else if k < l * i.size + news.length then news[k - l * i.size]? else w.cell? ⟨M.blk id, k, none⟩ := by
        intro k
        rw [cell_of s1, cell_of g2, ← Array.getElem?_toList, s2, splice_get (by simpa using hle2)]
        simp
      have hFsame : ∀ b ∈ F, (w.setCells (M.blk id) (l * i.size) news).heap[b]? = w.heap[b]? := by
        cases u with
        | free => simp [GoodU] at k4; subst k4; simp
        | sh bs' => exact ht1.rep k4 k1
        | deep z0 zs => cases hnd
      obtain ⟨F1, f1, f2⟩ := repRow_prefix (n := l) k3 (w' := w.setCells (M.blk id) (l * i.size) news) (fun j hj => by rw [hcell j, if_pos (by omega)]) hFsame
      have f3 := htr (w.setCells (M.blk id) (l * i.size) news) (M.blk id) (l * i.size) (fun j v hj => by
        have := (List.getElem?_eq_some_iff.1 hj).1
        rw [hcell, if_neg (by omega), if_pos (by omega), show l * i.size + j - l * i.size = j by omega]; exact hj) (ht1.rep hG hid)
      obtain ⟨F2, f4, f5⟩ := f1.app (by
        have : (es.take l).length = l := by simp; omega
        rw [this, Nat.zero_add]; exact f3)
      have hU : GoodU E M (w.setCells (M.blk id) (l * i.size) news) id i.size (es.take l ++ ys) (ruJoin u fl bs) F2 := by
        refine goodU_join (F1 := F) (F2 := Fy) hnd ?_ (ht1.good hG hid) hfl (fun c hc => (f5 c hc).imp (f2 c) (fun h => h))
        cases u with
        | free => exact k4
        | sh bs' => exact ht1.good k4 k1
        | deep z0 zs => cases hnd
      have hg2 := hg.turn (hdr := true) ht1 hf (f' := .row (es.take l ++ ys) i.size (ruJoin u fl bs) false) (fun h => by cases h) (fun _ ls => ⟨by simp, by simp⟩)
        ⟨fun _ => hoff, rub_join k1 hid, fun _ => ⟨g1, c', e0, s1⟩, F2, by rw [hoff]; exact f4, hU⟩
        (fun b hk hb => hg.lent b id hb hk) hframe (fun _ _ _ _ e hk => by first | (cases e; done) | (cases e; exact hg.iob _ _ _ _ _ hf hk)) (fun b oo n sz' hq => by rw [hnoio] at hq; cases hq)
      have hst := run_storeCells_cells (P := P) (M.blk id) (l * i.size) news 0 w (fun j hj => by rw [cell_of g2]; simp; omega) (fun j _ => frozen_of g2) hone
      refine wp_val (v := .slice (some ⟨M.blk id, 0, none⟩) (l + ys.length) cap) (w' := w.setCells (M.blk id) (l * i.size) news) (run_append_op hop hc hx htt (by rw [hv, run1]; simp only [hsz, add_addr, Nat.zero_add]; rw [hst]; rfl)) ?_
      rw [hdst]
      refine ⟨_, _, hg2.put hdn (s := .own id none) (fun es' sz' u' io' hf' => ?_), h⟩
      rcases putF_files.1 hf' with ⟨_, e⟩ | ⟨e, _⟩
      · cases e
        rw [hlen]
        exact ⟨_, cap, rfl, hle, by omega, by omega, fun _ => ⟨by simp [hoff], g1, c', e0, s1, by rw [hoff, hsz']; simpa using g3⟩⟩
      · exact absurd rfl e
  · -- it moves
    have holds : ∃ olds, Reads w i.size (.slice a0 l cap) l olds ∧ olds.length = l * i.size ∧ ∀ (w' : World) (b' o' : Nat), (∀ (j : Nat) (v : Value), olds[j]? = some v → w'.cell? ⟨b', o' + j, none⟩ = some v) → (∀ c ∈ F, w'.heap[c]? = w.heap[c]?) →
        ∃ F', RepRow w' b' i.size o' (es.take l) F' ∧ ∀ c ∈ F', c ∈ F := by
      by_cases hcap : cap = 0
      · have hl0 : l = 0 := by omega
        subst hl0
        exact ⟨[], ⟨a0, cap, rfl, by simp, fun _ _ j u hj => by simp at hj, fun _ => rfl⟩, by simp, fun _ _ _ _ _ => ⟨[], by simpa using .nil _ _ _, by simp⟩⟩
      · obtain ⟨rfl, g1, c0, e0, g2, g3⟩ := h4 hcap
        obtain ⟨F1, f1, f2⟩ := k3.take l
        obtain ⟨olds, o1, o2, o3, o4⟩ := f1.values
        have hl : (es.take l).length = l := by simp; omega
        rw [hl] at o1
        exact ⟨olds, ⟨_, cap, rfl, o1, fun b e j u hj => by cases e; rw [add_addr]; exact o3 j u hj, fun e => by cases e⟩, o1, fun w' b' o' hc1 hc2 => ⟨F1, o4 w' b' o' hc1 (fun c hc => hc2 c (f2 c hc)), f2⟩⟩
    obtain ⟨olds, ho1, ho2, ho3⟩ := holds
    have run1 := run_append_move (P := P) (w := w) (t := t) (ty := o.type) hu hi hzv (base := a0) (l := l) (cap := cap) (n := ys.length) (by rw [hsz]; exact ho1) (by rw [hsz]; exact hr) (by omega) (by rw [hby]; exact hfit)
    have hcapge := grownCap_ge w (l + ys.length) cap e
    generalize grownCap w (l + ys.length) cap e = cap' at run1 hcapge
    generalize hce : olds.toArray ++ news.toArray ++ Builtin.zeroCells zv.cells (cap' - (l + ys.length)) = ce at run1
    have hce1 : ∀ (j : Nat) (v : Value), olds[j]? = some v → ce[j]? = some v := by
      intro j v hj
      have := (List.getElem?_eq_some_iff.1 hj).1
      rw [← hce, Array.getElem?_append_left (by simp; omega), Array.getElem?_append_left (by simpa using this)]
      simpa using hj
    have hce2 : ∀ (j : Nat) (v : Value), news[j]? = some v → ce[l * i.size + j]? = some v := by
      intro j v hj
      have := (List.getElem?_eq_some_iff.1 hj).1
      rw [← hce, Array.getElem?_append_left (by simp; omega), Array.getElem?_append_right (by simp; omega)]
      simp only [List.size_toArray, ho2, show l * i.size + j - l * i.size = j by omega]
      simpa using hj
    have hce3 : cap' * i.size ≤ ce.size := by
      have hzs : zv.cells.size = i.size := by rw [hcells]; exact hcl
      rw [← hce]
      simp only [Array.size_append, List.size_toArray, size_zeroCells, ho2, hnews, hzs, ← Nat.add_mul]
      exact Nat.mul_le_mul_right _ (by omega)
    have ht1 := turn_move (E := E) hg (id := id) (w1 := w.drew) rfl rfl ⟨rfl, Nat.le_succ _⟩ rfl (.cells ce e (0, 0))
    have hnew : (w.drew.alloc (.cells ce e (0, 0))).heap[w.heap.size]? = some (.cells ce e (0, 0)) := alloc_new (w := w) (w1 := w.drew) rfl _
    have hFsame : ∀ b ∈ F, (w.drew.alloc (.cells ce e (0, 0))).heap[b]? = w.heap[b]? := by
      cases u with
      | free => simp [GoodU] at k4; subst k4; simp
      | sh bs' => exact ht1.rep k4 k1
      | deep z0 zs => cases hnd
    obtain ⟨F1, f1, f2⟩ := ho3 _ w.heap.size 0 (fun j v hj => by rw [cell_of hnew, Nat.zero_add]; exact hce1 j v hj) hFsame
    have f3 := htr _ w.heap.size (l * i.size) (fun j v hj => by rw [cell_of hnew]; exact hce2 j v hj) (ht1.rep hG hid)
    obtain ⟨F2, f4, f5⟩ := f1.app (by
      have : (es.take l).length = l := by simp; omega
      rw [this, Nat.zero_add]; exact f3)
    have hU : GoodU E (M.move id w.heap.size) (w.drew.alloc (.cells ce e (0, 0))) id i.size (es.take l ++ ys) (ruJoin u fl bs) F2 := by
      refine goodU_join (F1 := F) (F2 := Fy) hnd ?_ (ht1.good hG hid) hfl (fun c hc => (f5 c hc).imp (f2 c) (fun h => h))
      cases u with
      | free => exact k4
      | sh bs' => exact ht1.good k4 k1
      | deep z0 zs => cases hnd
    have hκ' : (M.move id w.heap.size).κ ((M.move id w.heap.size).blk id) = some id := by simp [Mp.move]
    have hg2 := hg.turn (hdr := true) ht1 hf (f' := .row (es.take l ++ ys) i.size (ruJoin u fl bs) false) (fun h => by cases h) (fun _ ls => ⟨by simp, by simp⟩)
      ⟨fun _ => by simp [Mp.move], rub_join k1 hid, fun _ => ⟨hκ', ce, e, by simpa [Mp.move] using hnew⟩, F2, by simpa [Mp.move] using f4, hU⟩
      (fun b hk hb => by
        exfalso
        simp only [Mp.move] at hk
        have := hg.size
        rw [if_neg (by omega)] at hk
        split at hk
        · cases hk
        · exact absurd hk ‹_›) hframe (fun _ _ _ _ e hk => by first | (cases e; done) | (cases e; exact hg.iob _ _ _ _ _ hf hk)) (fun b oo n sz' hq => by rw [hnoio] at hq; cases hq)
    refine wp_val (v := .slice (some ⟨w.heap.size, 0, none⟩) (l + ys.length) cap') (w' := w.drew.alloc (.cells ce e (0, 0))) (run_append_op hop hc hx htt (by rw [hv]; exact run1)) ?_
    rw [hdst]
    refine ⟨_, _, hg2.put hdn (s := .own id none) (fun es' sz' u' io' hf' => ?_), h⟩
    rcases putF_files.1 hf' with ⟨_, e⟩ | ⟨e, _⟩
    · cases e
      rw [hlen]
      exact ⟨_, cap', rfl, hcapge, by omega, by omega, fun _ => ⟨by simp [Mp.move], hκ', ce, _, by simpa [Mp.move] using hnew, by simpa [Mp.move] using hce3⟩⟩
    · exact absurd rfl e


theorem op_append_io (hT : TTok P) (hg : G E M σ a w) {d : Nat} (hdst : o.dst = some d) (hdn : d < σ.n) {c : Call} (hop : o.op = .call c) (hc : c.callee = .builtin .append) {x y : Operand} (hx : c.args.toList = [x, y]) {t : Nat} (htt : c.argTypes.toList = [t, t])
    {e : Nat} {i : TI} (ht : elemOf t = some (e, i)) {id : Nat} {es : List PV} (hf : σ.files id = some (.row es i.size .free true)) {p l : Nat} (hh : Hdr M w id es.length i.size p l (a.eval x)) {ys : List PV} {bs : List Nat} (hw : Wid E M w i.size (a.eval y) ys true bs)
    (hroom : p + l + ys.length ≤ es.length) (h : K (put (putF (kill false σ id) id (.row (es.take (p + l) ++ ys ++ es.drop (p + l + ys.length)) i.size .free true)) d (.own id (some (p, l + ys.length))))) : o.wp P a w (Nx E K) Q := by
  obtain ⟨a0, cap, hv, h1, h2, h3, h4⟩ := hh
  obtain ⟨k0, k1, k2, F, k3, k4⟩ := hg.files _ _ hf
  simp only [GoodU] at k4
  subst k4
  obtain ⟨news, Fy, hr, hone, hfl, hG, htr⟩ := hw.cells
  have := hfl rfl
  subst this
  obtain ⟨hu, inf, zv, cs, hi, hsz, hby, hzv, hzero, hcl, _, hcells⟩ := elem_types hT ht
  have hnews : news.length = ys.length * i.size := by obtain ⟨_, _, _, hl, _⟩ := hr; exact hl
  have run1 := run_append_stay (P := P) (w := w) (t := t) (ty := o.type) hu hi (base := a0) (l := l) (cap := cap) (by rw [hsz]; exact hr) (by clear h4; omega)
  have hlen : (es.take (p + l) ++ ys ++ es.drop (p + l + ys.length)).length = es.length := by simp; omega
  by_cases hcap : cap = 0
  · have hl0 : l = 0 := by clear h4; omega
    have hy0 : ys = [] := by apply List.eq_nil_of_length_eq_zero; clear h4; omega
    subst hl0; subst hy0
    have hn0 : news = [] := by apply List.eq_nil_of_length_eq_zero; simpa using hnews
    subst hn0
    have hes : es.take (p + 0) ++ [] ++ es.drop (p + 0 + ([] : List PV).length) = es := by simp
    rw [hes] at h
    have ht1 : Turn E id M M w w := ⟨fun _ _ _ => rfl, Nat.le_refl _, fun _ _ _ => rfl, fun b j h h' => by rw [h] at h'; cases h'; exact rfl, fun b j hb h => by have := (hg.own _ _ h); omega, fun _ _ => ⟨rfl, rfl⟩, rfl, TapeLe.rfl', rfl⟩
    have hg2 := hg.turn (hdr := false) ht1 hf (f' := .row es i.size .free true) (fun _ => ⟨fun ls hh => (by cases hh), fun es' sz' u' io' hh => by cases hh; exact ⟨rfl, rfl, es, _, rfl, rfl, fun _ _ _ h => h⟩⟩) (fun h => by cases h)
      ⟨k0, k1, k2, [], k3, rfl⟩ (fun b hk hb => hg.lent b id hb hk) (fun b hk hb => ⟨id, hg.lent b id hb hk⟩) (fun _ _ _ _ e hk => by first | (cases e; done) | (cases e; exact hg.iob _ _ _ _ _ hf hk)) (fun b oo n sz' hq => by
        obtain ⟨⟨es', _, hf', hnu, hn⟩, rest⟩ := hg.io _ _ _ _ _ hq
        rw [hf] at hf'; cases hf'
        exact ⟨⟨es, _, rfl, hnu, hn⟩, rest⟩)
    refine wp_val (v := .slice a0 0 cap) (w' := w) (run_append_op hop hc hx htt (by rw [hv, run1]; cases a0 <;> simp [storeCells])) ?_
    rw [hdst]
    refine ⟨_, _, hg2.put hdn (s := .own id (some (p, 0 + ([] : List PV).length))) (fun es' sz' u' io' hf' => ?_), h⟩
    rcases putF_files.1 hf' with ⟨_, e⟩ | ⟨e, _⟩
    · cases e
      exact ⟨a0, cap, by simp, by simp, by simpa using hroom, h3, fun h0 => absurd hcap h0⟩
    · exact absurd rfl e
  · obtain ⟨rfl, g1, c0, e0, g2, g3⟩ := h4 hcap
    have hle2 : M.off id + (p + l) * i.size + news.length ≤ c0.size := by
      rw [hnews, Nat.add_assoc, ← Nat.add_mul]
      refine Nat.le_trans (Nat.add_le_add_left (Nat.mul_le_mul_right _ ?_) _) g3
      omega
    obtain ⟨c', s1, s2⟩ := setCells_heap (M.blk id) news (M.off id + (p + l) * i.size) w c0 e0 (0, 0) g2 hle2
    have hsz' : c'.size = c0.size := by rw [← Array.length_toList, s2, splice_length (by simpa using hle2)]; simp
    have ht1 := turn_set hg g1 g2 (M.off id + (p + l) * i.size) news
    have hcell : ∀ k, (w.setCells (M.blk id) (M.off id + (p + l) * i.size) news).cell? ⟨M.blk id, k, none⟩ = if k < M.off id + (p + l) * i.size then w.cell? ⟨M.blk id, k, none⟩ else if k < M.off id + (p + l) * i.size + news.length then news[k - (M.off id + (p + l) * i.size)]? else w.cell? ⟨M.blk id, k, none⟩ := by
      intro k
      rw [cell_of s1, cell_of g2, ← Array.getElem?_toList, s2, splice_get (by simpa using hle2)]
      simp
    obtain ⟨F1, f1, f2⟩ := repRow_prefix (n := p + l) k3 (w' := w.setCells (M.blk id) (M.off id + (p + l) * i.size) news) (fun j hj => by rw [hcell j, if_pos (by omega)]) (by simp)
    have f3 := htr (w.setCells (M.blk id) (M.off id + (p + l) * i.size) news) (M.blk id) (M.off id + (p + l) * i.size) (fun j v hj => by
      have := (List.getElem?_eq_some_iff.1 hj).1
      rw [hcell, if_neg (by omega), if_pos (by omega), show M.off id + (p + l) * i.size + j - (M.off id + (p + l) * i.size) = j by omega]; exact hj) (by simp)
    obtain ⟨F2, f4, f5⟩ := f1.app (by
      have : (es.take (p + l)).length = p + l := by simp; omega
      rw [this]; exact f3)
    obtain ⟨F3, f6, f7⟩ := k3.drop (p + l + ys.length) hroom
    have f8 := f6.cells (w' := w.setCells (M.blk id) (M.off id + (p + l) * i.size) news) (fun j j1 j2 => by
      have e1 : (p + l + ys.length) * i.size = (p + l) * i.size + news.length := by rw [hnews, Nat.add_mul]
      rw [hcell j, if_neg (by omega), if_neg (by omega)]) (fun c hc => by have := f7 c hc; simp at this)
    obtain ⟨F4, f9, f10⟩ := f4.app (by
      have : (es.take (p + l) ++ ys).length = p + l + ys.length := by simp; omega
      rw [this]; exact f8)
    have hF4 : F4 = [] := by
      cases F4 with
      | nil => rfl
      | cons x F4 =>
        exfalso
        rcases f10 x (by simp) with h | h
        · rcases f5 x h with h | h
          · have := f2 x h; simp at this
          · simp at h
        · have := f7 x h; simp at this
    subst hF4
    have hsame : false = false → SameHdr M M w (w.setCells (M.blk id) (M.off id + (p + l) * i.size) news) id (.row es i.size .free true) (.row (es.take (p + l) ++ ys ++ es.drop (p + l + ys.length)) i.size .free true) := fun _ =>
      ⟨fun ls' hh => (by cases hh), fun es' sz' u' io' hh => by
        cases hh
        refine ⟨rfl, rfl, es, _, rfl, hlen.symm, fun oo l' v hh => ?_⟩
        rw [hlen] at hh ⊢
        obtain ⟨aa, cap', e1, e2, e3, e4, e5⟩ := hh
        refine ⟨aa, cap', e1, e2, e3, e4, fun h0 => ?_⟩
        obtain ⟨q1, q2, c1', e', q3, q4⟩ := e5 h0
        rw [g2] at q3; cases q3
        exact ⟨q1, q2, c', _, s1, by rw [hsz']; exact q4⟩⟩
    have hg2 := hg.turn (hdr := false) ht1 hf hsame (fun h => by cases h)
      ⟨k0, k1, fun _ => ⟨g1, c', e0, s1⟩, [], f9, rfl⟩
      (fun b hk hb => hg.lent b id hb hk) (fun b hk hb => ⟨id, hg.lent b id hb hk⟩) (fun _ _ _ _ e hk => by first | (cases e; done) | (cases e; exact hg.iob _ _ _ _ _ hf hk)) (fun b oo n sz' hqq => by
        obtain ⟨⟨es', _, hf', hnu, hn⟩, i1, i2, i3, c00, ci, ei, i4, i5, i6, i7⟩ := hg.io _ _ _ _ _ hqq
        rw [hf] at hf'
        cases hf'
        refine ⟨⟨_, _, rfl, hnu, by rw [hlen]; exact hn⟩, i1, i2, i3, c00, c', ei, i4, ?_, ?_, fun j hj => ?_⟩
        · rw [← i1, s1]; rw [← i1, g2] at i5; cases i5; rfl
        · rw [← i1, g2] at i5; cases i5; omega
        · rw [← i1, g2] at i5; cases i5
          rw [← i7 j hj]
          have := hcell j
          rw [cell_of s1, cell_of g2] at this
          rw [this]
          have e1 : (p + l + ys.length) * i.size = (p + l) * i.size + news.length := by rw [hnews, Nat.add_mul]
          have e2 : (p + l + ys.length) * i.size ≤ n * i.size := Nat.mul_le_mul_right _ (by omega)
          have e3 : p * i.size ≤ (p + l) * i.size := Nat.mul_le_mul_right _ (by omega)
          rcases hj with hj | hj
          · rw [if_pos (by omega)]
          · rw [if_neg (by omega), if_neg (by omega)])
    have hst := run_storeCells_cells (P := P) (M.blk id) (M.off id + (p + l) * i.size) news 0 w (fun j hj => by rw [cell_of g2]; simp; omega) (fun j _ => frozen_of g2) hone
    refine wp_val (v := .slice (some ⟨M.blk id, M.off id + p * i.size, none⟩) (l + ys.length) cap) (w' := w.setCells (M.blk id) (M.off id + (p + l) * i.size) news) (run_append_op hop hc hx htt (by
      rw [hv, run1]; simp only [hsz, add_addr]; rw [Nat.add_assoc, ← Nat.add_mul, hst]; rfl)) ?_
    rw [hdst]
    refine ⟨_, _, hg2.put hdn (s := .own id (some (p, l + ys.length))) (fun es' sz' u' io' hf' => ?_), h⟩
    rcases putF_files.1 hf' with ⟨_, e⟩ | ⟨e, _⟩
    · cases e
      rw [hlen]
      exact ⟨_, cap, rfl, by omega, by omega, h3, fun _ => ⟨rfl, g1, c', e0, s1, by rw [hsz']; exact g3⟩⟩
    · exact absurd rfl e

theorem op_append_new (hT : TTok P) (hg : G E M σ a w) {d : Nat} (hdst : o.dst = some d) (hdn : d < σ.n) {c : Call} (hop : o.op = .call c) (hc : c.callee = .builtin .append) {x y : Operand} (hx : c.args.toList = [x, y]) {t : Nat} (htt : c.argTypes.toList = [t, t])
    {e : Nat} {i : TI} (ht : elemOf t = some (e, i)) (hv : a.eval x = .slice none 0 0) {ys : List PV} {fl : Bool} {bs : List Nat} (hw : Wid E M w i.size (a.eval y) ys fl bs)
    (hfit : ys.length * (i.bytes + 1) ≤ 140737488355328) (h : appendNew (stdA P) i d ys fl bs σ K) : o.wp P a w (Nx E K) Q := by
  unfold appendNew at h
  split at h
  · exact h.elim
  · rename_i hbs
    obtain ⟨hlt, hio, hg1, hfr, hκ, hK⟩ := mkF_ok hg h
    have hcl := cls_lt hlt
    obtain ⟨news, Fy, hr, hone, hfl, hG, htr⟩ := hw.cells
    obtain ⟨hu, inf, zv, cs, hi, hsz, hby, hzv, hzero, hclen, _, hcells⟩ := elem_types hT ht
    have hnews : news.length = ys.length * i.size := by obtain ⟨_, _, _, hl, _⟩ := hr; exact hl
    have hdb : ∀ j ∈ bs, cls j ≠ d := by
      intro j hj hc
      exact hbs (List.any_eq_true.2 ⟨j, hj, by simpa using hc⟩)
    have hdbs : d ∉ bs := fun hd => hdb d hd hcl
    have hG1 : Good E (M.drop d) w bs Fy := (hG.retire hg hio (d := d)).more (fun j hj => (mem_dropB.1 hj).1)
    have hrub : d ∉ rubs (ruJoin .free fl bs) := rub_join (by simp [rubs]) hdbs
    by_cases hn : ys.length = 0
    · have hy0 : ys = [] := List.eq_nil_of_length_eq_zero hn
      subst hy0
      have hn0 : news = [] := by apply List.eq_nil_of_length_eq_zero; simpa using hnews
      subst hn0
      have run1 := run_append_stay (P := P) (w := w) (t := t) (ty := o.type) hu hi (base := none) (l := 0) (cap := 0) (by rw [hsz]; exact hr) (by simp)
      have ht1 := off_turn hg1 d (fun b => hκ d b hcl)
      have hg2 := hg1.new ht1 (fun b => hκ d b hcl) (hfr d hcl) (noIo_none hio hcl) (f := .row [] i.size (ruJoin .free fl bs) false) (by simp) ⟨fun _ => by simp, hrub, fun h => absurd rfl h, [], .nil _ _ _, by
        unfold ruJoin; split
        · exact rfl
        · intro b hb; simp at hb⟩
      refine wp_val (v := .slice none 0 0) (w' := w) (run_append_op hop hc hx htt (by rw [hv, run1]; rfl)) ?_
      rw [hdst]
      refine ⟨_, _, hg2.put hdn (s := .own d none) (fun es sz u io hf => ?_), hK⟩
      rcases putF_files.1 hf with ⟨_, e⟩ | ⟨e, _⟩
      · cases e
        exact ⟨none, 0, rfl, Nat.le_refl _, Nat.le_refl _, Nat.le_refl _, fun h => absurd rfl h⟩
      · exact absurd rfl e
    · have run1 := run_append_move (P := P) (w := w) (t := t) (ty := o.type) (olds := []) hu hi hzv (base := none) (l := 0) (cap := 0) (n := ys.length) ⟨none, 0, rfl, by simp, fun _ _ j u hj => by simp at hj, fun _ => rfl⟩ (by rw [hsz]; exact hr) (by omega) (by rw [hby, Nat.zero_add]; exact hfit)
      have hcapge := grownCap_ge w (0 + ys.length) 0 e
      generalize grownCap w (0 + ys.length) 0 e = cap' at run1 hcapge
      generalize hce : ([] : List Value).toArray ++ news.toArray ++ Builtin.zeroCells zv.cells (cap' - (0 + ys.length)) = ce at run1
      have hce2 : ∀ (j : Nat) (v : Value), news[j]? = some v → ce[j]? = some v := by
        intro j v hj
        have := (List.getElem?_eq_some_iff.1 hj).1
        rw [← hce, Array.getElem?_append_left (by simp; omega)]
        simpa using hj
      have hce3 : cap' * i.size ≤ ce.size := by
        have hzs : zv.cells.size = i.size := by rw [hcells]; exact hclen
        rw [← hce]
        simp only [Array.size_append, List.size_toArray, size_zeroCells, hnews, hzs, List.length_nil, Nat.zero_add, ← Nat.add_mul]
        exact Nat.mul_le_mul_right _ (by omega)
      have hnew : (w.drew.alloc (.cells ce e (0, 0))).heap[w.heap.size]? = some (.cells ce e (0, 0)) := alloc_new (w := w) (w1 := w.drew) rfl _
      have f3 := htr (w.drew.alloc (.cells ce e (0, 0))) w.heap.size 0 (fun j v hj => by rw [cell_of hnew, Nat.zero_add]; exact hce2 j v hj) (fun c hc => by
        rw [alloc_heap]
        show (w.heap.push _)[c]? = _
        rw [Array.getElem?_push, if_neg (by have := (hG c hc).1; omega)])
      have hU : GoodU E (M.drop d) w d i.size ys (ruJoin .free fl bs) Fy := goodU_join (F1 := []) (F2 := Fy) (u := .free) rfl rfl hG1 hfl (fun c hc => .inr hc)
      have hg2 := made_row hg1 (hfr d hcl) (fun b => hκ d b hcl) (noIo_none hio hcl) (w1 := w.drew) rfl rfl ⟨rfl, Nat.le_succ _⟩ rfl f3 (by unfold ruJoin; split <;> rfl) hU hrub
      refine wp_val (v := .slice (some ⟨w.heap.size, 0, none⟩) (0 + ys.length) cap') (w' := w.drew.alloc (.cells ce e (0, 0))) (run_append_op hop hc hx htt (by rw [hv]; exact run1)) ?_
      rw [hdst]
      have := own_new (E := E) (M := M.drop d) (σ := retire (stdA P) σ d) (d := d) (b := w.heap.size) (es := ys) (sz := i.size) (u := ruJoin .free fl bs) (cap := cap') hnew (by omega) hce3
      rw [Nat.zero_add]
      exact ⟨_, _, hg2.put hdn this, hK⟩

theorem op_appendN (hT : TTok P) (hg : G E M σ a w) {d : Nat} (hdst : o.dst = some d) (hdn : d < σ.n) {c : Call} (hop : o.op = .call c) (hc : c.callee = .builtin .append) {x y : Operand} (hx : c.args.toList = [x, y]) {t : Nat} (htt : c.argTypes.toList = [t, t])
    {e : Nat} {i : TI} (ht : elemOf t = some (e, i)) (hdp : deepPair σ i.size (eval σ x) (eval σ y) = none) (h : appendS (stdA P) i d (eval σ x) (eval σ y) σ K) : o.wp P a w (Nx E K) Q := by
  unfold appendS at h
  rw [hdp] at h
  simp only at h
  obtain ⟨ys, fl, bs, hw, h⟩ := wid_ok hg (eval_cl hg y) h
  have hxv := eval_cl hg x
  split at h
  · rename_i id sub he
    rw [he] at hxv
    split at h
    · rename_i es sz u io hf
      split at h
      · rename_i hsz
        subst hsz
        split at h
        · split at h
          · exact h.elim
          · rename_i hno
            simp only [Bool.or_eq_true, not_or] at hno
            have hid : id ∉ bs := by simpa using hno.1.2
            split at h
            · obtain ⟨hfit, h⟩ := h
              have := hxv _ _ _ _ hf
              refine op_append_own hT hg hdst hdn hop hc hx htt ht hf this hw (by simpa using hno.2) hid ?_ ?_
              · simpa [stdA] using hfit
              · simpa [stdA] using h
            · rename_i l
              obtain ⟨hfit, h⟩ := h
              have hh := hxv _ _ _ _ hf
              refine op_append_own hT hg hdst hdn hop hc hx htt ht hf hh hw (by simpa using hno.2) hid ?_ ?_
              · obtain ⟨_, _, _, _, h5, _⟩ := hh
                have : (es.take l).length = l := by simp; omega
                simp only [stdA, List.drop_zero, List.length_append, this] at hfit
                exact hfit
              · simpa [stdA] using h
            · exact h.elim
        · split at h
          · rename_i p l
            obtain ⟨_, hroom, h⟩ := h
            have hh := hxv _ _ _ _ hf
            exact op_append_io hT hg hdst hdn hop hc hx htt ht hf hh hw hroom h
          · exact h.elim
      · exact h.elim
    · exact h.elim
  · obtain ⟨hfit, h⟩ := h
    rename_i he
    rw [he] at hxv
    obtain ⟨F, hF, _⟩ := hxv
    have hv : a.eval x = .slice none 0 0 := by
      generalize a.eval x = v at hF
      cases hF; rfl
    exact op_append_new hT hg hdst hdn hop hc hx htt ht hv hw hfit h
  · exact h.elim

end ops
end Go.VAI

namespace Go.VAI
variable {E : Env} {P : Program}

section ops
variable {M : Mp} {σ : St} {a : Act} {w : World} {o : Oper} {K : St → Prop} {Q : Exit → Act → World → Prop}

theorem foldl_splice (v : Value) (off : Nat) (cells : Array Value) (h : off + v.cells.size ≤ cells.size) : (v.cells.zipIdx.foldl (fun cs (x : Value × Nat) => cs.setIfInBounds (off + x.2) x.1) cells).toList = splice off v.cells.toList cells.toList := by
  obtain ⟨h1, h2⟩ := Great.foldl_set off v.cells.toList 0 cells
  rw [← Array.foldl_toList, Array.toList_zipIdx]
  apply List.ext_getElem?
  intro j
  rw [Array.getElem?_toList, h2, splice_get (by simpa using h)]
  simp only [Array.length_toList, Nat.add_zero, Array.getElem?_toList]
  by_cases hj : j < off
  · rw [if_neg (by omega), if_pos hj]
  · by_cases hj2 : j < off + v.cells.size
    · rw [if_pos ⟨by omega, hj2, by omega⟩, if_neg hj, if_pos hj2]
    · rw [if_neg (by omega), if_neg hj, if_neg hj2]

theorem fill_ok (hg : G E M σ a w) {i : TI} {place : Nat → Option (Nat × Nat)} (hplace : ∀ k off ft fi, fieldOf i k = some (off, ft) → tt ft = some fi → place k = some (off, fi.size)) :
    ∀ {ps : List (Nat × Operand)} {acc ls : List Slot} {cells : Array Value}, fillS i σ ps acc = some ls → All2 (Cl1 E M σ w) acc cells.toList →
      ∃ cells', Instr.fill place cells (ps.map fun (k, x) => (k, a.eval x)) = some cells' ∧ All2 (Cl1 E M σ w) ls cells'.toList
  | [], acc, ls, cells, h, h2 => by simp [fillS] at h; subst h; exact ⟨cells, rfl, h2⟩
  | (k, x) :: ps, acc, ls, cells, h, h2 => by
    simp only [fillS] at h
    split at h
    · rename_i off ft hfo
      split at h
      · rename_i fi hfi
        split at h
        · rename_i hl
          obtain ⟨cs, hv, h3⟩ := sleaves_cl (eval_cl hg x) hl.2.2
          have hcs : cs.length = fi.size := by rw [← h3.length]; exact hl.1
          have hlen : acc.length = cells.size := by have := h2.length; simpa using this
          have hsz : (a.eval x).cells.size = fi.size := by rw [hv]; exact hcs
          have h4 : All2 (Cl1 E M σ w) (sleaves (eval σ x)) cs := by simpa using h3.imp (g := fun s => s) (q := Cl1 E M σ w) (fun s v hc => hc.1)
          have hf := foldl_splice (a.eval x) off cells (by omega)
          obtain ⟨cells', k1, k2⟩ := fill_ok hg hplace (cells := ((a.eval x).cells.zipIdx.foldl (fun cs (x : Value × Nat) => cs.setIfInBounds (off + x.2) x.1) cells)) h (by rw [hf, hv]; exact h2.splice h4 off)
          refine ⟨cells', ?_, k2⟩
          simp only [List.map_cons]
          unfold Instr.fill
          simp only [hplace k off ft fi hfo hfi]
          rw [if_neg (by simp; omega)]
          exact k1
        · cases h
      · cases h
    · cases h

theorem mapM_some {α β : Type} {f : α → Option β} : ∀ {l : List α}, (∀ x ∈ l, (f x).isSome = true) → ∃ ys, l.mapM f = some ys ∧ ∀ (j : Nat), ys[j]? = (l[j]?).bind f
  | [], _ => ⟨[], rfl, by simp⟩
  | x :: l, h => by
    obtain ⟨ys, h1, h2⟩ := mapM_some (f := f) (l := l) (fun y hy => h y (by simp [hy]))
    obtain ⟨y, hy⟩ := Option.isSome_iff_exists.1 (h x (by simp))
    refine ⟨y :: ys, by simp [List.mapM_cons, hy, h1], fun j => ?_⟩
    cases j with
    | zero => simp [hy]
    | succ j => simpa using h2 j

theorem op_build (hT : TTok P) (hg : G E M σ a w) (hd : o.dst.all (fun d => Nat.blt d σ.n) = true) {t : Nat} {ps : Array (Nat × Operand)} (hop : o.op = .build t ps) {d : Nat} (hdst : o.dst = some d) {i : TI} (ht : tt t = some i) {ls : List Slot}
    (hls : fillS i σ ps.toList (i.zero.map (.pv · [])) = some ls) (hag : i.ag = true) (h : K (put σ d (.ag ls))) : o.wp P a w (Nx E K) Q := by
  obtain ⟨inf, z, cs, hi, hsz, _, hz, hzero, _, hone, hcells, _⟩ := (hT _ _ ht).info
  obtain ⟨dd, hd1, h1, h2, _, hst, _⟩ := (hT _ _ ht).und
  obtain ⟨fs, rfl, fs', hk⟩ := h1 hag
  rw [hzero] at hls
  have hacc : All2 (Cl1 E M σ w) ((cs.map PV.val).map (Slot.pv · [])) (⟨cs⟩ : Array Value).toList := by
    have := (All2.vals (E := E) (M := M) (σ := σ) (w := w) hone).imp (g := fun s => s) (q := Cl1 E M σ w) (fun s v hc => hc.1)
    rw [List.map_id'] at this; exact this
  have hrun : ∃ cells, (Instr.build t (ps.map fun (k, x) => (k, a.eval x))).run P w = .ok (.agg cells) w ∧ All2 (Cl1 E M σ w) ls cells.toList := by
      obtain ⟨fields, e, hfs, hsome⟩ := hst _ hk
      cases e
      obtain ⟨places, p1, p2⟩ := mapM_some (f := fun f : Field => (P.info? f.type).map fun i => (f.offset, i.size)) (l := fs.toList) (fun f hf => by
        have := hsome f hf
        cases hq : P.info? f.type with
        | none => rw [hq] at this; cases this
        | some v => rfl)
      obtain ⟨cells', k1, k2⟩ := fill_ok hg (i := i) (place := (places.toArray[·]?)) (fun k off ft fi hfo hfi => by
        obtain ⟨fields', fd, q1, q2, rfl, rfl⟩ := fieldOf_some hT ht hfo
        rw [hd1] at q1; cases q1
        obtain ⟨inf', _, _, hi', hsz', _⟩ := (hT _ _ hfi).info
        have := p2 k
        simp only [List.getElem?_toArray, this]
        simp [q2, hi', hsz']) (cells := ⟨cs⟩) hls hacc
      refine ⟨cells', run_build w t _ cells' ?_, k2⟩
      unfold Program.built
      simp only [hi, hd1, hz, p1, hcells]
      rw [← k1]
      congr 1
      rw [Array.toList_map]
  obtain ⟨cells, r1, r2⟩ := hrun
  refine wp_val (v := .agg cells) (w' := w) ?_ ?_
  · simp only [execOp, hop, Sem.run_bind, r1]; rfl
  · rw [hdst]
    exact ⟨M, _, hg.put (lt_of_dst hd hdst) (s := .ag ls) ⟨cells.toList, rfl, r2⟩, h⟩

end ops
end Go.VAI

namespace Go.VAI
variable {E : Env} {P : Program}

/-! ### A row goes over to another one -/

theorem delF_files {σ : St} {j k : Nat} {f : File} : (delF σ j).files k = some f ↔ k ≠ j ∧ σ.files k = some f := by
  unfold delF upd
  by_cases h : k = j
  · simp [h]
  · simp [h]

theorem gone1_files {σ : St} {j k : Nat} {f : File} : (gone1 σ j).files k = some f ↔ k ≠ j ∧ ∃ f0, σ.files k = some f0 ∧ killF true j f0 = some f := by
  unfold gone1
  rw [delF_files, kill_files]
  constructor
  · rintro ⟨h1, f0, h2, h3⟩; rw [if_neg h1] at h3; exact ⟨h1, f0, h2, h3⟩
  · rintro ⟨h1, f0, h2, h3⟩; exact ⟨h1, f0, h2, by rw [if_neg h1]; exact h3⟩

theorem gone1_row {σ : St} {j k : Nat} {es : List PV} {sz : Nat} {u : RU} {io : Bool} (h : (gone1 σ j).files k = some (.row es sz u io)) : k ≠ j ∧ σ.files k = some (.row es sz u io) ∧ j ∉ rubs u := by
  obtain ⟨h1, f0, h2, h3⟩ := gone1_files.1 h
  have := kill_row (hdr := true) (σ := σ) (id := j) (kill_files.2 ⟨f0, h2, by rw [if_neg h1]; exact h3⟩)
  exact ⟨h1, this.1, this.2 h1⟩

/-- Blocks of file j go over to file id. -/
def Mp.give (M : Mp) (j id : Nat) : Mp := { M with κ := fun b => if M.κ b = some j then some id else M.κ b }

theorem Mp.give_ne {M : Mp} {j id b : Nat} (h : M.κ b ≠ some j) : (M.give j id).κ b = M.κ b := by simp [Mp.give, h]
theorem Mp.give_eq {M : Mp} {j id b : Nat} (h : M.κ b = some j) : (M.give j id).κ b = some id := by simp [Mp.give, h]
theorem Mp.give_keep {M : Mp} {j id k b : Nat} (hk : k ≠ j) (h : M.κ b = some k) : (M.give j id).κ b = some k := by rw [Mp.give_ne (by rw [h]; simpa using hk), h]
theorem Mp.give_id {M : Mp} {j id b : Nat} (h : M.κ b = some id) : (M.give j id).κ b = some id := by
  by_cases h2 : M.κ b = some j
  · exact Mp.give_eq h2
  · rw [Mp.give_ne h2, h]
theorem Mp.give_some {M : Mp} {j id k b : Nat} (h : (M.give j id).κ b = some k) : M.κ b = some k ∨ M.κ b = some j ∧ k = id := by
  by_cases h2 : M.κ b = some j
  · rw [Mp.give_eq h2] at h; cases h; exact .inr ⟨h2, rfl⟩
  · rw [Mp.give_ne h2] at h; exact .inl h

theorem Good.give {M : Mp} {w : World} {bs F : List Nat} {j id : Nat} (h : Good E M w bs F) (hj : j ∉ bs) : Good E (M.give j id) w bs F := by
  intro b hb
  obtain ⟨h1, h2⟩ := h b hb
  have hne : M.κ b ≠ some j := by
    intro hk
    rcases h2 with ⟨h2, _⟩ | ⟨i, hi, h2⟩
    · rw [hk] at h2; cases h2
    · rw [hk] at h2; cases h2; exact hj hi
  refine ⟨h1, ?_⟩
  rw [Mp.give_ne hne]
  exact h2

theorem Hdr.give {M : Mp} {w : World} {k n sz o l j id : Nat} {v : Value} (h : Hdr M w k n sz o l v) (hk : k ≠ j) : Hdr (M.give j id) w k n sz o l v := by
  obtain ⟨a, cap, h1, h2, h3, h4, h5⟩ := h
  exact ⟨a, cap, h1, h2, h3, h4, fun h0 => let ⟨k1, k2, k3⟩ := h5 h0; ⟨k1, Mp.give_keep hk k2, k3⟩⟩

theorem Cl1.give {M : Mp} {σ : St} {w : World} {j id : Nat} (s : Slot) (v : Value) (h : Cl1 E M σ w s v) : Cl1 E (M.give j id) (gone1 σ j) w (kill1 true j s) v := by
  cases s with
  | pv r bs =>
    simp only [kill1]
    split
    · exact trivial
    · rename_i hb
      obtain ⟨F, h1, h2⟩ := h
      exact ⟨F, h1, h2.give (by simpa using hb)⟩
  | own k sub =>
    simp only [kill1]
    split
    · exact trivial
    · cases sub with
      | none => intro es sz u io hf; obtain ⟨h1, h2, _⟩ := gone1_row hf; exact (h es sz u io h2).give h1
      | some p => obtain ⟨o, l⟩ := p; intro es sz u io hf; obtain ⟨h1, h2, _⟩ := gone1_row hf; exact (h es sz u io h2).give h1
  | ref k o =>
    intro ls hf
    obtain ⟨h1, f0, h2, h3⟩ := gone1_files.1 hf
    cases f0 with
    | cell ls0 => exact h ls0 h2
    | row es sz u io =>
      cases u with
      | free => simp [killF] at h3
      | deep z0 zs => simp [killF] at h3
      | sh bs => simp only [killF] at h3; split at h3 <;> simp at h3
  | rref k i o =>
    simp only [kill1]
    split
    · exact trivial
    · intro es sz u io hf; exact h es sz u io (gone1_row hf).2.1
  | lf k i o yl =>
    simp only [kill1]
    split
    · exact trivial
    · intro es sz u io hf; exact h es sz u io (gone1_row hf).2.1
  | undef => exact h
  | dead => exact h
  | _ => exact h.elim

theorem G.give {M : Mp} {σ : St} {a : Act} {w : World} (hg : G E M σ a w) {j id : Nat} (hj : E.io j = none) (hid : ∀ es sz u, σ.files id ≠ some (.row es sz u true)) : G E (M.give j id) (gone1 σ j) a w where
  slots k := (hg.slots k).map (fun s v h => Cl1.give s v h)
  tmps := hg.tmps
  files k f hf := by
    obtain ⟨hk, f0, hf0, hkf⟩ := gone1_files.1 hf
    have h := hg.files k f0 hf0
    cases f0 with
    | cell ls =>
      simp only [killF, Option.some.injEq] at hkf
      subst hkf
      obtain ⟨h1, c, e, h2, h3⟩ := h
      refine ⟨Mp.give_keep hk h1, c, e, h2, ?_⟩
      refine h3.imp fun s v hs => ?_
      rcases hs with ⟨q1, q2, q3⟩ | rfl
      · rw [map2_noTup (.inl q3)]
        rcases noTup_kill1 (hdr := true) (id := j) (.inl q3) with q | q
        · exact .inl ⟨Cl1.give s v q1, q2, q⟩
        · exact .inr q
      · exact .inr rfl
    | row es sz u io =>
      have hrow : f = .row es sz u io ∧ j ∉ rubs u := by
        cases u with
        | free => simp [killF] at hkf; exact ⟨hkf.symm, by simp [rubs]⟩
        | deep z0 zs => simp [killF] at hkf; exact ⟨hkf.symm, by simp [rubs]⟩
        | sh bs =>
          simp only [killF] at hkf
          split at hkf
          · cases hkf
          · rename_i hb; simp at hkf; exact ⟨hkf.symm, by simpa [rubs] using hb⟩
      obtain ⟨rfl, hju⟩ := hrow
      obtain ⟨h1, h2, h3, F, h4, h5⟩ := h
      refine ⟨h1, h2, fun hne => let ⟨k1, k2⟩ := h3 hne; ⟨Mp.give_keep hk k1, k2⟩, F, h4, ?_⟩
      cases u with
      | free => exact h5
      | sh bs => exact Good.give h5 hju
      | deep z0 zs => exact h5.deep_mono rfl rfl (fun _ => rfl) (fun c q1 q2 => ⟨Mp.give_keep hk q1, rfl, q2⟩)
  defers := hg.defers
  own b i h := by
    rcases Mp.give_some h with h | ⟨h, _⟩
    · exact hg.own b i h
    · exact hg.own b j h
  lent b i hb h := by
    rcases Mp.give_some h with h | ⟨h, _⟩
    · exact hg.lent b i hb h
    · obtain ⟨q, hq, _⟩ := hg.lent b j hb h
      rw [hj] at hq; cases hq
  frame := hg.frame
  size := hg.size
  os := hg.os
  tape := hg.tape
  out := hg.out
  iob k es sz u b hf hk := by
    obtain ⟨h1, h2, _⟩ := gone1_row hf
    rcases Mp.give_some hk with h | ⟨_, h⟩
    · exact hg.iob k es sz u b h2 h
    · subst h; exact absurd h2 (hid _ _ _)
  io k b o n sz h := by
    obtain ⟨⟨es, u, h1, h1', h2⟩, h3, h4, h5, h6⟩ := hg.io k b o n sz h
    have hk : k ≠ j := by intro e; subst e; rw [hj] at h; cases h
    refine ⟨⟨es, u, gone1_files.2 ⟨hk, _, h1, ?_⟩, h1', h2⟩, h3, h4, Mp.give_keep hk h5, h6⟩
    cases u <;> first | rfl | cases h1'

/-- All of them. -/
def Mp.gives (M : Mp) (id : Nat) : List Nat → Mp
  | [] => M
  | j :: js => (M.give j id).gives id js

theorem Mp.gives_blk {id : Nat} : ∀ {js : List Nat} {M : Mp}, (M.gives id js).blk = M.blk ∧ (M.gives id js).off = M.off
  | [], _ => ⟨rfl, rfl⟩
  | j :: js, M => by have := Mp.gives_blk (id := id) (js := js) (M := M.give j id); exact ⟨this.1, this.2⟩
theorem Mp.gives_id {id b : Nat} : ∀ {js : List Nat} {M : Mp}, M.κ b = some id → (M.gives id js).κ b = some id
  | [], _, h => h
  | j :: js, M, h => Mp.gives_id (js := js) (Mp.give_id h)
theorem Mp.gives_mem {id b j : Nat} : ∀ {js : List Nat} {M : Mp}, j ∈ js → M.κ b = some j → (M.gives id js).κ b = some id
  | [], _, h, _ => by simp at h
  | i :: js, M, h, hk => by
    by_cases hi : M.κ b = some i
    · exact Mp.gives_id (js := js) (Mp.give_eq hi)
    · rcases List.mem_cons.1 h with rfl | h
      · exact absurd hk hi
      · exact Mp.gives_mem (js := js) h (by rw [Mp.give_ne hi]; exact hk)
theorem Mp.gives_some {id b k : Nat} : ∀ {js : List Nat} {M : Mp}, (M.gives id js).κ b = some k → M.κ b = some k ∨ (∃ j ∈ js, M.κ b = some j) ∧ k = id
  | [], _, h => .inl h
  | j :: js, M, h => by
    rcases Mp.gives_some (js := js) h with h | ⟨⟨i, hi, h⟩, e⟩
    · rcases Mp.give_some h with h | ⟨h, e⟩
      · exact .inl h
      · exact .inr ⟨⟨j, by simp, h⟩, e⟩
    · rcases Mp.give_some h with h | ⟨h, _⟩
      · exact .inr ⟨⟨i, by simp [hi], h⟩, e⟩
      · exact .inr ⟨⟨j, by simp, h⟩, e⟩

theorem gone_row {es : List PV} {sz : Nat} {u : RU} {io : Bool} {k : Nat} : ∀ {js : List Nat} {σ : St}, (gone σ js).files k = some (.row es sz u io) → k ∉ js ∧ σ.files k = some (.row es sz u io)
  | [], _, h => ⟨by simp, h⟩
  | j :: js, σ, h => by
    obtain ⟨h1, h2⟩ := gone_row (js := js) h
    obtain ⟨h3, h4, _⟩ := gone1_row h2
    exact ⟨by simp [h3, h1], h4⟩

theorem gone_n : ∀ {js : List Nat} {σ : St}, (gone σ js).n = σ.n
  | [], _ => rfl
  | j :: js, σ => gone_n (js := js) (σ := gone1 σ j)

theorem G.gives {a : Act} {w : World} {id : Nat} : ∀ {js : List Nat} {M : Mp} {σ : St}, G E M σ a w → (∀ j ∈ js, E.io j = none) → (∀ es sz u, σ.files id ≠ some (.row es sz u true)) → G E (M.gives id js) (gone σ js) a w
  | [], _, _, hg, _, _ => hg
  | j :: js, M, σ, hg, hj, hid => G.gives (js := js) (hg.give (hj j (by simp)) hid) (fun i hi => hj i (by simp [hi])) (fun es sz u h => hid es sz u (gone1_row h).2.1)

theorem CellsO.copy {L L' : PV → Value → List Nat → Prop} {w w' : World} {b b' : Nat} : ∀ {ls : List PV} {o o' : Nat} {N : List Nat}, CellsO L w b o ls N → (∀ j, j < ls.length → w'.cell? ⟨b', o' + j, none⟩ = w.cell? ⟨b, o + j, none⟩) →
    (∀ y v n, L y v n → (∀ c ∈ n, c ∈ N) → L' y v n) → CellsO L' w' b' o' ls N
  | [], _, _, _, h, _, _ => h
  | y :: ys, o, o', N, ⟨v, n1, n2, e, h1, h2, h3, h4⟩, hc, hL => by
    subst e
    exact ⟨v, n1, n2, rfl, by have := hc 0 (by simp); simp only [Nat.add_zero] at this; rw [this]; exact h1, h2, hL _ _ _ h3 (fun c hc => by simp [hc]),
      CellsO.copy h4 (fun j hj => by rw [show o' + 1 + j = o' + (j + 1) by omega, show o + 1 + j = o + (j + 1) by omega]; exact hc (j + 1) (by simp; omega)) (fun y v n h hn => hL y v n h (fun c hc => by simp [hn c hc]))⟩

theorem nodupN_iff : ∀ {l : List Nat}, nodupN l = true ↔ l.Nodup
  | [] => by simp [nodupN]
  | i :: l => by simp [nodupN, nodupN_iff (l := l), List.nodup_cons]

/-- Leaves that go over, as they stand in cells of a later world. -/
theorem take_cells {M : Mp} {σ : St} {a : Act} {w w' : World} (hg : G E M σ a w) {z : Nat} {zs : List Nat} {b : Nat} : ∀ {ls : List Slot} {cs : List Value} {ys : List PV} {js : List Nat} {o : Nat}, All2 (Cl1 E M σ w) ls cs → takeL σ z zs ls = some (ys, js) → js.Nodup →
    (∀ c, (∃ j ∈ js, M.κ c = some j) → w'.heap[c]? = w.heap[c]?) → (∀ (k : Nat) (v : Value), cs[k]? = some v → w'.cell? ⟨b, o + k, none⟩ = some v) →
    ∃ N, CellsO (LeafR noOk w' zs z) w' b o ys N ∧ N.Nodup ∧ ∀ c ∈ N, c < w.heap.size ∧ ∃ j ∈ js, M.κ c = some j
  | [], _, ys, js, o, .nil, h, _, _, _ => by
    simp only [takeL, Option.some.injEq, Prod.mk.injEq] at h
    obtain ⟨rfl, rfl⟩ := h
    exact ⟨[], rfl, by simp, by simp⟩
  | s :: ls, v :: cs, ys, js, o, .cons h1 t, h, hnd, hw, hc => by
    simp only [takeL] at h
    split at h
    · rename_i y js1 ys' ks e1 e2
      cases h
      obtain ⟨hd1, hd2, hd3⟩ := List.nodup_append.1 hnd
      obtain ⟨N2, k1, k2, k3⟩ := take_cells hg (o := o + 1) t e2 hd2 (fun c ⟨j, hj, hk⟩ => hw c ⟨j, by simp [hj], hk⟩) (fun k u hu => by rw [show o + 1 + k = o + (k + 1) by omega]; exact hc (k + 1) u (by simpa using hu))
      have hv : w'.cell? ⟨b, o, none⟩ = some v := by simpa using hc 0 v rfl
      have fin : ∀ N1, v.oneCell' = true → LeafR noOk w' zs z y v N1 → N1.Nodup → (∀ c ∈ N1, c < w.heap.size ∧ ∃ j ∈ js1, M.κ c = some j) → ∃ N, CellsO (LeafR noOk w' zs z) w' b o (y :: ys') N ∧ N.Nodup ∧ ∀ c ∈ N, c < w.heap.size ∧ ∃ j ∈ js1 ++ ks, M.κ c = some j := by
        intro N1 q0 q1 q2 q3
        refine ⟨N1 ++ N2, ⟨v, N1, N2, rfl, hv, q0, q1, k1⟩, ?_, fun c hc => ?_⟩
        · refine List.nodup_append.2 ⟨q2, k2, fun c h1 d h2 e => ?_⟩
          subst e
          obtain ⟨_, j, hj, e1⟩ := q3 c h1
          obtain ⟨_, i, hi, e2⟩ := k3 c h2
          rw [e1] at e2; cases e2
          exact hd3 _ hj _ hi rfl
        · rcases List.mem_append.1 hc with hc | hc
          · obtain ⟨p1, j, p2, p3⟩ := q3 c hc; exact ⟨p1, j, by simp [p2], p3⟩
          · obtain ⟨p1, j, p2, p3⟩ := k3 c hc; exact ⟨p1, j, by simp [p2], p3⟩
      cases s with
      | pv r bs =>
        cases r with
        | val u =>
          simp only [take1, Option.some.injEq, Prod.mk.injEq] at e1
          obtain ⟨rfl, rfl⟩ := e1
          obtain ⟨F, hF, _⟩ := h1
          cases hF with
          | val _ h1 => exact fin [] h1 ⟨rfl, rfl⟩ (by simp) (by simp)
        | _ => simp [take1] at e1
      | own j sub =>
        cases sub with
        | some p => simp [take1] at e1
        | none =>
          simp only [take1] at e1
          split at e1
          · rename_i es sz u hf
            split at e1
            · rename_i hsz
              have hsz : sz = z := by simpa using hsz
              subst hsz
              obtain ⟨p0, p1, p2, F, p3, p4⟩ := hg.files _ _ hf
              obtain ⟨a0, cap, rfl, q1, q2, q3, q4⟩ := h1 _ _ _ _ hf
              have key : ∀ (N' : List Nat), js1 = [j] → y = .sl es → (es ≠ [] → RowO noOk w' zs (M.blk j) sz (M.off j) es N') → (es = [] → N' = []) → N'.Nodup → (∀ c ∈ N', M.κ c = some j ∧ c < w.heap.size ∧ c ≠ M.blk j) →
                  ∃ N, CellsO (LeafR noOk w' zs sz) w' b o (y :: ys') N ∧ N.Nodup ∧ ∀ c ∈ N, c < w.heap.size ∧ ∃ j ∈ js1 ++ ks, M.κ c = some j := by
                rintro N' rfl rfl r1 r0 r2 r3
                by_cases hcap : cap = 0
                · have hl : es.length = 0 := by omega
                  have he : es = [] := List.eq_nil_of_length_eq_zero hl
                  subst he
                  subst hcap
                  exact fin [] rfl (.inl ⟨rfl, rfl, a0, rfl⟩) (by simp) (by simp)
                · obtain ⟨rfl, g1, c0, e0, g2, g3⟩ := q4 hcap
                  have hb : w'.heap[M.blk j]? = w.heap[M.blk j]? := hw _ ⟨j, by simp, g1⟩
                  refine fin (M.blk j :: N') rfl (.inr ⟨M.blk j, M.off j, cap, c0, e0, N', by simp, hcap, q1, by rw [hb]; exact g2, by simpa using g3, rfl, ?_⟩) (List.nodup_cons.2 ⟨fun h => (r3 _ h).2.2 rfl, r2⟩) (fun c hc => ?_)
                  · by_cases he : es = []
                    · subst he; rw [r0 rfl]; exact RowO.nil
                    · exact r1 he
                  · rcases List.mem_cons.1 hc with rfl | hc
                    · exact ⟨hg.own _ _ g1, j, by simp, g1⟩
                    · exact ⟨(r3 c hc).2.1, j, by simp, (r3 c hc).1⟩
              split at e1
              · cases e1
                simp only [GoodU] at p4
                subst p4
                refine key [] rfl rfl (fun hne => ⟨rfl, [], ?_, by simp⟩) (fun _ => rfl) (by simp) (by simp)
                exact p3.mono (hw _ ⟨j, by simp, (p2 hne).1⟩) (by simp)
              · rename_i z1 zs1 z2 zs2
                split at e1
                · rename_i hz
                  cases e1
                  simp only [Bool.and_eq_true, beq_iff_eq] at hz
                  obtain ⟨rfl, rfl⟩ := hz
                  obtain ⟨⟨N', d1, d2, d3⟩, _⟩ := p4
                  refine key N' rfl rfl (fun hne => ?_) (fun he => by subst he; exact d1.nil_eq) d2 d3
                  exact d1.mono (fun c h => h.elim) (fun k _ _ => cell?_same (hw _ ⟨j, by simp, (p2 hne).1⟩) k) (fun c hc => hw c ⟨j, by simp, (d3 c hc).1⟩)
                · cases e1
              · cases e1
            · cases e1
          · cases e1
      | _ => simp [take1] at e1
    · cases h

/-- They are read as these. -/
theorem take_pv1 {A : Ar} {σ : St} {z : Nat} {zs : List Nat} : ∀ {ls : List Slot} {ys : List PV} {js : List Nat}, takeL σ z zs ls = some (ys, js) → optAll (pv1 A σ) ls = some ys
  | [], ys, js, h => by simp only [takeL, Option.some.injEq, Prod.mk.injEq] at h; rw [← h.1]; rfl
  | s :: ls, ys, js, h => by
    simp only [takeL] at h
    split at h
    · rename_i y js1 ys' ks e1 e2
      cases h
      have ih := take_pv1 (A := A) e2
      have h1 : pv1 A σ s = some y := by
        cases s with
        | pv r bs =>
          cases r with
          | val u => simp only [take1, Option.some.injEq, Prod.mk.injEq] at e1; rw [← e1.1]; rfl
          | _ => simp [take1] at e1
        | own j sub =>
          cases sub with
          | some p => simp [take1] at e1
          | none =>
            simp only [take1] at e1
            split at e1
            · rename_i es sz u hf
              have hy : y = .sl es := by
                split at e1
                · split at e1
                  · cases e1; rfl
                  · split at e1
                    · cases e1; rfl
                    · cases e1
                  · cases e1
                · cases e1
              simp only [pv1, content, hf, hy]
            · cases e1
        | _ => simp [take1] at e1
      simp only [optAll, h1, ih]
    · cases h

theorem take_io {M : Mp} {σ : St} {a : Act} {w : World} (hg : G E M σ a w) {z : Nat} {zs : List Nat} : ∀ {ls : List Slot} {ys : List PV} {js : List Nat}, takeL σ z zs ls = some (ys, js) → ∀ j ∈ js, E.io j = none
  | [], ys, js, h => by simp only [takeL, Option.some.injEq, Prod.mk.injEq] at h; rw [← h.2]; simp
  | s :: ls, ys, js, h => by
    simp only [takeL] at h
    split at h
    · rename_i y js1 ys' ks e1 e2
      cases h
      have ih := take_io hg e2
      intro i hi
      rcases List.mem_append.1 hi with hi | hi
      · cases s with
        | pv r bs =>
          cases r with
          | val u => simp only [take1, Option.some.injEq, Prod.mk.injEq] at e1; rw [← e1.2] at hi; simp at hi
          | _ => simp [take1] at e1
        | own j sub =>
          cases sub with
          | some p => simp [take1] at e1
          | none =>
            simp only [take1] at e1
            split at e1
            · rename_i es sz u hf
              have hy : js1 = [j] := by
                split at e1
                · split at e1
                  · cases e1; rfl
                  · split at e1
                    · cases e1; rfl
                    · cases e1
                  · cases e1
                · cases e1
              rw [hy] at hi
              simp only [List.mem_singleton] at hi
              subst hi
              cases hq : E.io i with
              | none => rfl
              | some q => obtain ⟨b, o, n, sz'⟩ := q; obtain ⟨⟨es', u', hf', _⟩, _⟩ := hg.io _ _ _ _ _ hq; rw [hf] at hf'; cases hf'
            · cases e1
        | _ => simp [take1] at e1
      · exact ih i hi
    · cases h

end Go.VAI

namespace Go.VAI
variable {E : Env} {P : Program}

theorem take_live {σ : St} {z : Nat} {zs : List Nat} : ∀ {ls : List Slot} {ys : List PV} {js : List Nat}, takeL σ z zs ls = some (ys, js) → ls.all (liveS σ) = true
  | [], _, _, _ => rfl
  | s :: ls, ys, js, h => by
    simp only [takeL] at h
    split at h
    · rename_i y js1 ys' ks e1 e2
      have ih := take_live e2
      have h1 : liveS σ s = true := by
        cases s with
        | pv r bs =>
          cases r with
          | val u => rfl
          | _ => simp [take1] at e1
        | own j sub =>
          cases sub with
          | some p => simp [take1] at e1
          | none =>
            simp only [take1] at e1
            split at e1
            · rename_i es sz u hf; simp [liveS, hf]
            · cases e1
        | _ => simp [take1] at e1
      simp [h1, ih]
    · cases h

theorem take_vals {σ : St} {z : Nat} {zs : List Nat} {bs : List Nat} : ∀ {ls : List PV} {ys : List PV} {js : List Nat}, takeL σ z zs (ls.map (Slot.pv · bs)) = some (ys, js) → ys = ls
  | [], ys, js, h => by simp only [List.map_nil, takeL, Option.some.injEq, Prod.mk.injEq] at h; exact h.1.symm
  | x :: ls, ys, js, h => by
    simp only [List.map_cons, takeL] at h
    split at h
    · rename_i y js1 ys' ks e1 e2
      cases h
      rw [take_vals e2]
      cases x with
      | val u => simp only [take1, Option.some.injEq, Prod.mk.injEq] at e1; rw [← e1.1]
      | _ => simp [take1] at e1
    · cases h

theorem take_leaves {A : Ar} {σ : St} {z : Nat} {zs : List Nat} {s : Slot} {ys : List PV} {js : List Nat} {r : PV} (h : takeL σ z zs (sleaves s) = some (ys, js)) (hr : pv2 A σ s = some r) : leaves r = ys := by
  have one : ∀ {s : Slot} {r : PV}, takeL σ z zs [s] = some (ys, js) → pv1 A σ s = some r → (∀ ls, r ≠ .agg ls) → leaves r = ys := by
    intro s r h hr hn
    have := take_pv1 (A := A) h
    simp only [optAll, hr, Option.some.injEq] at this
    rw [← this]
    cases r <;> first | rfl | exact absurd rfl (hn _)
  cases s with
  | ag ls =>
    simp only [sleaves] at h
    simp only [pv2, take_pv1 (A := A) h, Option.some.injEq] at hr
    rw [← hr]; rfl
  | pv x bs =>
    simp only [pv2, pv1, Option.some.injEq] at hr
    subst hr
    cases x with
    | agg ls => exact (take_vals h).symm
    | val u => exact one h rfl (by simp)
    | sl es => exact one h rfl (by simp)
    | pt ls => exact one h rfl (by simp)
    | fn f ls => exact one h rfl (by simp)
  | own id sub =>
    refine one h hr ?_
    intro ls e
    subst e
    simp only [pv2, pv1] at hr
    split at hr <;> cases hr
  | lf id i o yl =>
    refine one h hr ?_
    intro ls e
    subst e
    simp only [pv2, pv1] at hr
    split at hr <;> cases hr
  | ref id o => simp [sleaves, takeL, take1] at h
  | rref id i o => simp [sleaves, takeL, take1] at h
  | clo f ls => simp [sleaves, takeL, take1] at h
  | tup ls => simp [sleaves, takeL, take1] at h
  | undef => simp [sleaves, takeL, take1] at h
  | dead => simp [sleaves, takeL, take1] at h

theorem gone_keep {es : List PV} {sz : Nat} {u : RU} {io : Bool} {k : Nat} (hu : notSh u = true) : ∀ {js : List Nat} {σ : St}, k ∉ js → σ.files k = some (.row es sz u io) → (gone σ js).files k = some (.row es sz u io)
  | [], _, _, h => h
  | j :: js, σ, hk, h => by
    simp only [List.mem_cons, not_or] at hk
    refine gone_keep hu (js := js) hk.2 (gone1_files.2 ⟨hk.1, _, h, ?_⟩)
    cases u <;> first | rfl | cases hu

theorem optAll_len {α β : Type} {f : α → Option β} : ∀ {ls : List α} {xs : List β}, optAll f ls = some xs → ls.length = xs.length
  | [], xs, h => by simp only [optAll, Option.some.injEq] at h; subst h; rfl
  | s :: ls, xs, h => by
    simp only [optAll] at h
    split at h
    · split at h
      · cases h; simp [optAll_len ‹_›]
      · cases h
    · cases h

section ops
variable {M : Mp} {σ : St} {a : Act} {w : World} {o : Oper} {K : St → Prop} {Q : Exit → Act → World → Prop}

theorem op_store_absorb (hT : TTok P) (hg : G E M σ a w) (hd : o.dst.all (fun d => Nat.blt d σ.n) = true) {t : Nat} {x y : Operand} (hop : o.op = .store t x y) {i : TI} (ht : tt t = some i) {id q p : Nat} (hx : eval σ x = .rref id q p) {es : List PV} {sz z0 : Nat} {zs : List Nat}
    (hf : σ.files id = some (.row es sz (.deep z0 zs) false)) {ys : List PV} {js : List Nat} (htk : takeL σ z0 zs (sleaves (eval σ y)) = some (ys, js)) (hnd : js.Nodup) (hidj : id ∉ js) {r : PV} (hr : pv2 (stdA P) σ (eval σ y) = some r) {z : PV} (hz : es[q]? = some z)
    (hl : i.size ≠ 0 ∧ (leaves r).length = i.size ∧ p + i.size ≤ (leaves z).length ∧ (leaves r).all notAgg)
    {z' : PV} (hz' : ofLeaves (isAg z) (splice p (leaves r) (leaves z)) = some z')
    (h : K (putO (putF (kill false (gone σ js) id) id (.row (es.set q z') sz (.deep z0 zs) false)) o.dst .undef)) : o.wp P a w (Nx E K) Q := by
  obtain ⟨hl0, hl1, hl2, hl4⟩ := hl
  have hry := take_leaves htk hr
  obtain ⟨cs, c1, c2'⟩ := sleaves_cl (eval_cl hg y) (take_live htk)
  have c2 : All2 (Cl1 E M σ w) (sleaves (eval σ y)) cs := by have := c2'.imp (g := fun x => x) (q := Cl1 E M σ w) (fun _ _ h => h.1); simpa using this
  have c3 : ∀ v ∈ cs, v.oneCell' = true := c2'.one (fun _ _ _ h => h.2.1)
  obtain ⟨k0, k1, k2, F, k3, ⟨N, d1, d2, d3⟩, k6'⟩ := hg.files _ _ hf
  have hq := (List.getElem?_eq_some_iff.1 hz).1
  obtain ⟨kk, c, e, kh⟩ := k2 (by intro e; rw [e] at hq; simp at hq)
  obtain ⟨g1, Gz, g2, g3⟩ := k3.get hz
  have hxv := eval_cl hg x
  rw [hx] at hxv
  have hxv' := hxv _ _ _ _ hf
  have hcl : cs.length = i.size := by
    have e1 := c2.length
    have e2 : (sleaves (eval σ y)).length = ys.length := optAll_len (take_pv1 (A := stdA P) htk)
    rw [← e1, e2, ← hry]; exact hl1
  have hle : M.off id + q * sz + p + cs.length ≤ c.size := by
    obtain ⟨v, G', q1, _⟩ := g2.get (j := (leaves z).length - 1) (x := (leaves z)[(leaves z).length - 1]'(by omega)) (List.getElem?_eq_getElem _)
    rw [cell_of kh] at q1
    have := (Array.getElem?_eq_some_iff.1 q1).1
    omega
  -- the rows go over
  have hio0 : ∀ es sz u, σ.files id ≠ some (.row es sz u true) := fun es sz u h => by rw [hf] at h; cases h
  have hg' := hg.gives (id := id) (js := js) (take_io hg htk) hio0
  have hf' : (gone σ js).files id = some (.row es sz (.deep z0 zs) false) := gone_keep rfl hidj hf
  have hblk : (M.gives id js).blk = M.blk ∧ (M.gives id js).off = M.off := Mp.gives_blk
  have kk' : (M.gives id js).κ ((M.gives id js).blk id) = some id := by rw [hblk.1]; exact Mp.gives_id kk
  have ht1 := turn_set hg' kk' (by rw [hblk.1]; exact kh) (M.off id + q * sz + p) cs
  rw [hblk.1] at ht1
  obtain ⟨c', k5, k6⟩ := setCells_heap (M.blk id) cs (M.off id + q * sz + p) w c e (0, 0) kh (by omega)
  have hother : ∀ b, b ≠ M.blk id → (w.setCells (M.blk id) (M.off id + q * sz + p) cs).heap[b]? = w.heap[b]? := fun b hb => setCells_other _ _ hb cs _ w c e (0, 0) kh
  have hsize : (w.setCells (M.blk id) (M.off id + q * sz + p) cs).heap.size = w.heap.size := (setCells_rest _ cs _ w).1
  have hsz' : c'.size = c.size := by rw [← Array.length_toList, k6, splice_length (by simpa using hle)]; simp
  have hlz : leaves z' = splice p (leaves r) (leaves z) := by
    refine ofLeaves_leaves hz' (fun hna y hy => ?_)
    have hzl : leaves z = [z] ∧ notAgg z = true := by cases z <;> first | exact ⟨rfl, rfl⟩ | simp [isAg] at hna
    unfold splice at hy
    simp only [List.mem_append] at hy
    rcases hy with (hm | hm) | hm
    · have hm := List.mem_of_mem_take hm; rw [hzl.1] at hm; simp at hm; subst hm; exact hzl.2
    · exact List.all_eq_true.1 hl4 _ hm
    · have hm := List.mem_of_mem_drop hm; rw [hzl.1] at hm; simp at hm; subst hm; exact hzl.2
  have hcell : ∀ k, (w.setCells (M.blk id) (M.off id + q * sz + p) cs).cell? ⟨M.blk id, k, none⟩ = if k < M.off id + q * sz + p then w.cell? ⟨M.blk id, k, none⟩ else if k < M.off id + q * sz + p + cs.length then cs[k - (M.off id + q * sz + p)]? else w.cell? ⟨M.blk id, k, none⟩ := by
    intro k
    rw [cell_of k5, cell_of kh, ← Array.getElem?_toList, k6, splice_get (by simpa using hle)]
    simp
  have hout : ∀ k, (k < M.off id + q * sz + p ∨ M.off id + q * sz + p + cs.length ≤ k) → (w.setCells (M.blk id) (M.off id + q * sz + p) cs).cell? ⟨M.blk id, k, none⟩ = w.cell? ⟨M.blk id, k, none⟩ := fun k hk => by
    rw [hcell k]
    rcases hk with hk | hk
    · rw [if_pos hk]
    · rw [if_neg (by omega), if_neg (by omega)]
  obtain ⟨N2, t1, t2, t3⟩ := take_cells hg (w' := w.setCells (M.blk id) (M.off id + q * sz + p) cs) (b := M.blk id) (o := M.off id + q * sz + p) c2 htk hnd
    (fun d ⟨j, hj, hk⟩ => hother d (fun e => by subst e; rw [kk] at hk; cases hk; exact hidj hj))
    (fun k v hv => by
      have := (List.getElem?_eq_some_iff.1 hv).1
      rw [hcell, if_neg (by omega), if_pos (by omega), show M.off id + q * sz + p + k - (M.off id + q * sz + p) = k by omega]; exact hv)
  have hNs : ∀ c ∈ N, (w.setCells (M.blk id) (M.off id + q * sz + p) cs).heap[c]? = w.heap[c]? := fun c hc => hother c (d3 c hc).2.2
  obtain ⟨n1, n2, n3, e0, a1, a2, a3⟩ := d1.open (p := p) (k := (leaves r).length) hz (by omega)
  subst e0
  have hpl : (preF es q p z).length = q * sz + p := preF_len d1.1 hq (by omega)
  have hylen : ys.length = (leaves r).length := by rw [hry]
  have hclose : RowO noOk (w.setCells (M.blk id) (M.off id + q * sz + p) cs) (z0 :: zs) (M.blk id) sz (M.off id) (es.set q z') (n1 ++ (N2 ++ n3)) := by
    refine RowO.close (ys := ys) d1.1 hz (by omega) (by rw [hlz, hry]; unfold splice; rw [List.append_assoc]) (a1.mono (fun j j1 j2 => hout j (.inl (by omega))) (fun y v n h hn => h.mono (fun c h => h.elim) (fun c hc => hNs c (by simp [hn c hc])))) t1 ?_
    rw [hylen]
    exact a3.mono (fun j j1 j2 => hout j (.inr (by omega))) (fun y v n h hn => h.mono (fun c h => h.elim) (fun c hc => hNs c (by simp [hn c hc])))
  have hκN : ∀ c ∈ n1 ++ (N2 ++ n3), (M.gives id js).κ c = some id ∧ c < (w.setCells (M.blk id) (M.off id + q * sz + p) cs).heap.size ∧ c ≠ M.blk id := by
    intro c hc
    rw [hsize]
    simp only [List.mem_append] at hc
    have old : c ∈ n1 ++ (n2 ++ n3) → (M.gives id js).κ c = some id ∧ c < w.heap.size ∧ c ≠ M.blk id := fun hc => let ⟨p1, p2, p3⟩ := d3 c hc; ⟨Mp.gives_id p1, p2, p3⟩
    rcases hc with hc | hc | hc
    · exact old (by simp [hc])
    · obtain ⟨p1, j, p2, p3⟩ := t3 c hc
      exact ⟨Mp.gives_mem p2 p3, p1, fun e => by subst e; rw [kk] at p3; cases p3; exact hidj p2⟩
    · exact old (by simp [hc])
  have hnodup : (n1 ++ (N2 ++ n3)).Nodup := by
    have hsub : (n1 ++ n3).Nodup := List.Nodup.sublist (List.Sublist.append (List.Sublist.refl _) (List.sublist_append_right _ _)) d2
    obtain ⟨b1, b2, b3⟩ := List.nodup_append.1 hsub
    have hdis : ∀ c ∈ N2, c ∉ n1 ++ (n2 ++ n3) := fun c hc hm => by
      obtain ⟨_, j, p2, p3⟩ := t3 c hc
      rw [(d3 c hm).1] at p3; cases p3; exact hidj p2
    refine List.nodup_append.2 ⟨b1, List.nodup_append.2 ⟨t2, b2, fun c h1 d h2 e => ?_⟩, fun c h1 d h2 e => ?_⟩
    · subst e; exact hdis c h1 (by simp [h2])
    · subst e
      rcases List.mem_append.1 h2 with h2 | h2
      · exact hdis c h2 (by simp [h1])
      · exact b3 _ h1 _ h2 rfl
  obtain ⟨F', r1, r2⟩ := hclose.rep
  have hsame : false = false → SameHdr (M.gives id js) (M.gives id js) w (w.setCells (M.blk id) (M.off id + q * sz + p) cs) id (.row es sz (.deep z0 zs) false) (.row (es.set q z') sz (.deep z0 zs) false) := fun _ =>
    ⟨fun ls' hh => (by cases hh), fun es' sz' u' io' hh => by
      cases hh
      refine ⟨rfl, rfl, es, _, rfl, by simp, fun oo l v hh => ?_⟩
      obtain ⟨aa, cap, e1, e2, e3, e4, e5⟩ := hh
      refine ⟨aa, cap, e1, e2, e3, e4, fun h0 => ?_⟩
      obtain ⟨f1, f2, c1', e', f3, f4⟩ := e5 h0
      rw [hblk.1, kh] at f3; cases f3
      exact ⟨f1, f2, c', _, by rw [hblk.1]; exact k5, by rw [hsz']; exact f4⟩⟩
  have hnoio : E.io id = none := by
    cases hq : E.io id with
    | none => rfl
    | some q => obtain ⟨b, o, n, sz⟩ := q; obtain ⟨⟨es', _, hf', _⟩, _⟩ := hg.io _ _ _ _ _ hq; rw [hf] at hf'; cases hf'
  have hg2 := hg'.turn (hdr := false) ht1 hf' hsame (fun h => by cases h)
    ⟨fun h => by rw [hblk.2]; exact k0 h, k1, fun _ => ⟨kk', c', e, by rw [hblk.1]; exact k5⟩, F', by rw [hblk.1, hblk.2]; exact r1, ⟨n1 ++ (N2 ++ n3), by rw [hblk.1, hblk.2]; exact hclose, hnodup, by rw [hblk.1]; exact hκN⟩, fun c hc => by
      rw [hblk.1]; exact (r2 c hc).elim (hκN c) (fun h => h.elim)⟩
    (fun b hk hb => hg'.lent b id hb hk) (fun b hk hb => ⟨id, hg'.lent b id hb hk⟩) (fun _ _ _ _ e hk => by cases e) (fun b oo n sz' hqq => by rw [hnoio] at hqq; cases hqq)
  refine wp_skp (w' := w.setCells (M.blk id) (M.off id + q * sz + p) cs) ?_ ⟨_, _, hg2.putO (by
    have : (putF (kill false (gone σ js) id) id (.row (es.set q z') sz (.deep z0 zs) false)).n = σ.n := gone_n
    rw [this]; exact hd) undef_cl, h⟩
  have hrun := run_storeAt (P := P) hT ht kh c1 hcl hle c3
  simp only [execOp, hop, hxv', Sem.run_bind, hrun]
  rfl

end ops
end Go.VAI

namespace Go.VAI
variable {E : Env} {P : Program}

theorem RowO.app {w w' : World} {z sz : Nat} {zs : List Nat} {b1 o1 b2 o2 b o : Nat} {es ys : List PV} {N1 N2 : List Nat} (h1 : RowO noOk w (z :: zs) b1 sz o1 es N1) (h2 : RowO noOk w (z :: zs) b2 sz o2 ys N2)
    (c1 : ∀ k, k < es.length * sz → w'.cell? ⟨b, o + k, none⟩ = w.cell? ⟨b1, o1 + k, none⟩) (c2 : ∀ k, k < ys.length * sz → w'.cell? ⟨b, o + es.length * sz + k, none⟩ = w.cell? ⟨b2, o2 + k, none⟩)
    (hn : ∀ c, c ∈ N1 ∨ c ∈ N2 → w'.heap[c]? = w.heap[c]?) : RowO noOk w' (z :: zs) b sz o (es ++ ys) (N1 ++ N2) := by
  obtain ⟨e1, q1⟩ := h1
  obtain ⟨e2, q2⟩ := h2
  refine ⟨fun x hx => (List.mem_append.1 hx).elim (e1 x) (e2 x), ?_⟩
  rw [List.flatMap_append]
  have l1 := flat_len e1
  have l2 := flat_len e2
  refine CellsO.app (q1.copy (fun j hj => c1 j (by omega)) (fun y v n h hm => LeafR.mono (fun c h => h.elim) h (fun c hc => hn c (.inl (hm c hc))))) ?_
  rw [l1]
  exact q2.copy (fun j hj => c2 j (by omega)) (fun y v n h hm => LeafR.mono (fun c h => h.elim) h (fun c hc => hn c (.inr (hm c hc))))

theorem turn_grow {M : Mp} {σ : St} {a : Act} {w : World} (hg : G E M σ a w) {id : Nat} {w1 : World} (h1 : w1.heap = w.heap) (h2 : w1.os = w.os) (h3 : TapeLe w w1) (h4 : w1.output = w.output) (ob : Obj) :
    Turn E id M (M.new id w.heap.size) w (w1.alloc ob) where
  heap b hb _ := by
    have : (w1.alloc ob).heap = w1.heap.push ob := rfl
    rw [this, h1, Array.getElem?_push]
    rw [if_neg (by omega)]
  size := by rw [World.size_alloc, h1]; omega
  κ b hb _ := by simp [Mp.new, show b ≠ w.heap.size by omega]
  κo b j h h' := by
    have := hg.own _ _ h
    simp only [Mp.new, if_neg (show b ≠ w.heap.size by omega), h] at h'
    cases h'; rfl
  κn b j hb h := by
    simp only [Mp.new] at h ⊢
    by_cases hc : b = w.heap.size
    · rw [if_pos hc] at h; cases h; exact ⟨rfl, by rw [World.size_alloc, h1]; omega⟩
    · rw [if_neg hc] at h
      have := (hg.own _ _ h)
      omega
  blk j hj := by simp [Mp.new, hj]
  os := by rw [← h2]; rfl
  tape := h3
  out := by rw [← h4]; rfl

section ops
variable {M : Mp} {σ : St} {a : Act} {w : World} {o : Oper} {K : St → Prop} {Q : Exit → Act → World → Prop}

/-- The cells of a whole row of one's own. -/
theorem own_reads (hg : G E M σ a w) {id : Nat} {es : List PV} {sz : Nat} {u : RU} {io : Bool} (hf : σ.files id = some (.row es sz u io)) {v : Value} (hh : Hdr M w id es.length sz 0 es.length v) :
    ∃ cs, Reads w sz v es.length cs ∧ cs.length = es.length * sz ∧ (∀ u ∈ cs, u.oneCell' = true) ∧ ∀ k u, cs[k]? = some u → w.cell? ⟨M.blk id, M.off id + k, none⟩ = some u := by
  obtain ⟨a0, cap, rfl, h1, h2, h3, h4⟩ := hh
  obtain ⟨k0, k1, k2, F, k3, k4⟩ := hg.files _ _ hf
  obtain ⟨cs, c1, c2, c3, c4⟩ := k3.values
  by_cases hcap : cap = 0
  · have he : es = [] := List.eq_nil_of_length_eq_zero (by omega)
    subst he
    have : cs = [] := List.eq_nil_of_length_eq_zero (by simpa using c1)
    subst this
    exact ⟨[], ⟨a0, cap, rfl, by simp, fun _ _ j u hj => by simp at hj, fun _ => rfl⟩, by simp, by simp, fun k u h => by simp at h⟩
  · obtain ⟨rfl, _⟩ := h4 hcap
    exact ⟨cs, ⟨_, cap, rfl, c1, fun b e j u hj => by cases e; rw [add_addr]; simp only [Nat.zero_mul, Nat.add_zero]; exact c3 j u hj, fun e => by cases e⟩, c1, c2, c3⟩

theorem op_append_deep (hT : TTok P) (hg : G E M σ a w) {d : Nat} (hdst : o.dst = some d) (hdn : d < σ.n) {c : Call} (hop : o.op = .call c) (hc : c.callee = .builtin .append) {x y : Operand} (hx : c.args.toList = [x, y]) {t : Nat} (htt : c.argTypes.toList = [t, t])
    {e : Nat} {i : TI} (ht : elemOf t = some (e, i)) {id j : Nat} {es ys : List PV} {z : Nat} {zs : List Nat} (hf : σ.files id = some (.row es i.size (.deep z zs) false)) (hfj : σ.files j = some (.row ys i.size (.deep z zs) false)) (hne : id ≠ j)
    (hh : Hdr M w id es.length i.size 0 es.length (a.eval x)) (hhj : Hdr M w j ys.length i.size 0 ys.length (a.eval y))
    (hfit : (es.length + ys.length) * (i.bytes + 1) ≤ 140737488355328) (h : K (put (putF (kill true (gone σ [j]) id) id (.row (es ++ ys) i.size (.deep z zs) false)) d (.own id none))) : o.wp P a w (Nx E K) Q := by
  obtain ⟨news, hr, hnews, hone, hncell⟩ := own_reads hg hfj hhj
  obtain ⟨olds, ho, holds, _, hocell⟩ := own_reads hg hf hh
  obtain ⟨k0, k1, k2, F, k3, ⟨N1, d1, d2, d3⟩, k6⟩ := hg.files _ _ hf
  obtain ⟨j0, j1, j2, Fj, j3, ⟨N2, b1, b2, b3⟩, j6⟩ := hg.files _ _ hfj
  obtain ⟨hu, inf, zv, cs, hi, hsz, hby, hzv, hzero, hcl, _, hcells⟩ := elem_types hT ht
  have hoff := k0 rfl
  have hnoio : ∀ k es, σ.files k = some (.row es i.size (.deep z zs) false) → E.io k = none := fun k es hf => by
    cases hq : E.io k with
    | none => rfl
    | some q => obtain ⟨b, o, n, sz⟩ := q; obtain ⟨⟨es', _, hf', _⟩, _⟩ := hg.io _ _ _ _ _ hq; rw [hf] at hf'; cases hf'
  have hg' := hg.give (j := j) (id := id) (hnoio j _ hfj) (fun es sz u h => by rw [hf] at h; cases h)
  have hf' : (gone σ [j]).files id = some (.row es i.size (.deep z zs) false) := gone_keep rfl (by simpa using hne) hf
  have hN1 : ∀ c ∈ N1, (M.give j id).κ c = some id ∧ c < w.heap.size ∧ c ≠ M.blk id := fun c hc => let ⟨p1, p2, p3⟩ := d3 c hc; ⟨Mp.give_id p1, p2, p3⟩
  have hN2 : ∀ c ∈ N2, (M.give j id).κ c = some id ∧ c < w.heap.size ∧ M.κ c = some j := fun c hc => let ⟨p1, p2, p3⟩ := b3 c hc; ⟨Mp.give_eq p1, p2, p1⟩
  have hnd : (N1 ++ N2).Nodup := List.nodup_append.2 ⟨d2, b2, fun c h1 d h2 e => by
    subst e
    have e1 := (d3 c h1).1
    rw [(b3 c h2).1] at e1; cases e1; exact hne rfl⟩
  have hframe : ∀ b, (M.give j id).κ b = some id → b < E.w0.heap.size → ∃ i, E.lentB i b := fun b hk hb => ⟨id, hg'.lent b id hb hk⟩
  have hlen : (es ++ ys).length = es.length + ys.length := by simp
  have hnc : ∀ k, k < ys.length * i.size → ∃ u, news[k]? = some u ∧ w.cell? ⟨M.blk j, M.off j + k, none⟩ = some u := fun k hk =>
    ⟨_, List.getElem?_eq_getElem (by omega), hncell k _ (List.getElem?_eq_getElem (by omega))⟩
  have hoc : ∀ k, k < es.length * i.size → ∃ u, olds[k]? = some u ∧ w.cell? ⟨M.blk id, M.off id + k, none⟩ = some u := fun k hk =>
    ⟨_, List.getElem?_eq_getElem (by omega), hocell k _ (List.getElem?_eq_getElem (by omega))⟩
  obtain ⟨a0, cap, hv, h1, h2, h3, h4⟩ := hh
  simp only [Nat.zero_mul, Nat.add_zero, hoff, Nat.zero_add] at h4
  have hdn' : d < (putF (kill true (gone σ [j]) id) id (.row (es ++ ys) i.size (.deep z zs) false)).n := hdn
  by_cases hle : es.length + ys.length ≤ cap
  · have run1 := run_append_stay (P := P) (w := w) (t := t) (ty := o.type) hu hi (base := a0) (l := es.length) (cap := cap) (by rw [hsz]; exact hr) hle
    by_cases hcap : cap = 0
    · have he : es = [] := List.eq_nil_of_length_eq_zero (by omega)
      have hy : ys = [] := List.eq_nil_of_length_eq_zero (by omega)
      subst he; subst hy
      have hn0 : news = [] := by apply List.eq_nil_of_length_eq_zero; simpa using hnews
      subst hn0
      have ht1 : Turn E id (M.give j id) (M.give j id) w w := ⟨fun _ _ _ => rfl, Nat.le_refl _, fun _ _ _ => rfl, fun b k h h' => by rw [h] at h'; cases h'; exact rfl, fun b k hb h => by have := (hg'.own _ _ h); omega, fun _ _ => ⟨rfl, rfl⟩, rfl, TapeLe.rfl', rfl⟩
      have hg2 := hg'.turn (hdr := true) ht1 hf' (f' := .row ([] ++ []) i.size (.deep z zs) false) (fun h => by cases h) (fun _ ls => ⟨by simp, by simp⟩)
        ⟨fun _ => hoff, k1, fun h => by simp at h, [], by simpa using .nil _ _ _, ⟨[], by simpa using RowO.nil, by simp, by simp⟩, by simp⟩
        (fun b hk hb => hg'.lent b id hb hk) hframe (fun _ _ _ _ e hk => by cases e) (fun b oo n sz' hq => by rw [hnoio id _ hf] at hq; cases hq)
      refine wp_val (v := .slice a0 0 cap) (w' := w) (run_append_op hop hc hx htt (by rw [hv, run1]; cases a0 <;> simp [storeCells])) ?_
      rw [hdst]
      refine ⟨_, _, hg2.put hdn' (s := .own id none) (fun es' sz' u' io' hf' => ?_), h⟩
      rcases putF_files.1 hf' with ⟨_, e⟩ | ⟨e, _⟩
      · cases e
        exact ⟨a0, cap, by simp, by simp, by simp, by simp, fun h0 => absurd hcap h0⟩
      · exact absurd rfl e
    · obtain ⟨rfl, g1, c0, e0, g2, g3⟩ := h4 hcap
      have hle2 : es.length * i.size + news.length ≤ c0.size := by
        rw [hnews, ← Nat.add_mul]
        exact Nat.le_trans (Nat.mul_le_mul_right _ hle) g3
      obtain ⟨c', s1, s2⟩ := setCells_heap (M.blk id) news (es.length * i.size) w c0 e0 (0, 0) g2 hle2
      have hsz' : c'.size = c0.size := by rw [← Array.length_toList, s2, splice_length (by simpa using hle2)]; simp
      have g1' : (M.give j id).κ ((M.give j id).blk id) = some id := Mp.give_id g1
      have ht1 := turn_set hg' g1' g2 (es.length * i.size) news
      have hother : ∀ b, b ≠ M.blk id → (w.setCells (M.blk id) (es.length * i.size) news).heap[b]? = w.heap[b]? := fun b hb => setCells_other _ _ hb news _ w c0 e0 (0, 0) g2
      have hsize : (w.setCells (M.blk id) (es.length * i.size) news).heap.size = w.heap.size := (setCells_rest _ news _ w).1
      have hcell : ∀ k, (w.setCells (M.blk id) (es.length * i.size) news).cell? ⟨M.blk id, k, none⟩ = if k < es.length * i.size then w.cell? ⟨M.blk id, k, none⟩ else if k < es.length * i.size + news.length then news[k - es.length * i.size]? else w.cell? ⟨M.blk id, k, none⟩ := by
        intro k
        rw [cell_of s1, cell_of g2, ← Array.getElem?_toList, s2, splice_get (by simpa using hle2)]
        simp
      have hκN : ∀ c ∈ N1 ++ N2, (M.give j id).κ c = some id ∧ c < (w.setCells (M.blk id) (es.length * i.size) news).heap.size ∧ c ≠ M.blk id := fun c hc => by
        rw [hsize]
        rcases List.mem_append.1 hc with hc | hc
        · exact hN1 c hc
        · obtain ⟨p1, p2, p3⟩ := hN2 c hc
          exact ⟨p1, p2, fun e => by subst e; rw [g1] at p3; cases p3; exact hne rfl⟩
      have hrow : RowO noOk (w.setCells (M.blk id) (es.length * i.size) news) (z :: zs) (M.blk id) i.size (M.off id) (es ++ ys) (N1 ++ N2) := by
        refine d1.app b1 (fun k hk => ?_) (fun k hk => ?_) (fun c hc => hother c (hκN c (List.mem_append.2 hc)).2.2)
        · rw [hoff, Nat.zero_add, hcell k, if_pos hk]
        · obtain ⟨u, q1, q2⟩ := hnc k hk
          rw [hoff, Nat.zero_add, hcell, if_neg (by omega), if_pos (by omega), show es.length * i.size + k - es.length * i.size = k by omega, q1, q2]
      obtain ⟨F', r1, r2⟩ := hrow.rep
      have hg2 := hg'.turn (hdr := true) ht1 hf' (f' := .row (es ++ ys) i.size (.deep z zs) false) (fun h => by cases h) (fun _ ls => ⟨by simp, by simp⟩)
        ⟨fun _ => hoff, k1, fun _ => ⟨g1', c', e0, s1⟩, F', r1, ⟨_, hrow, hnd, hκN⟩, fun c hc => (r2 c hc).elim (hκN c) (fun h => h.elim)⟩
        (fun b hk hb => hg'.lent b id hb hk) hframe (fun _ _ _ _ e hk => by cases e) (fun b oo n sz' hq => by rw [hnoio id _ hf] at hq; cases hq)
      have hst := run_storeCells_cells (P := P) (M.blk id) (es.length * i.size) news 0 w (fun j hj => by rw [cell_of g2]; simp; omega) (fun j _ => frozen_of g2) hone
      refine wp_val (v := .slice (some ⟨M.blk id, 0, none⟩) (es.length + ys.length) cap) (w' := w.setCells (M.blk id) (es.length * i.size) news) (run_append_op hop hc hx htt (by rw [hv, run1]; simp only [hsz, add_addr, Nat.zero_add]; rw [hst]; rfl)) ?_
      rw [hdst]
      refine ⟨_, _, hg2.put hdn' (s := .own id none) (fun es' sz' u' io' hf' => ?_), h⟩
      rcases putF_files.1 hf' with ⟨_, e⟩ | ⟨e, _⟩
      · cases e
        rw [hlen]
        exact ⟨_, cap, rfl, hle, by omega, by omega, fun _ => ⟨by rw [show (M.give j id).off id = 0 from hoff]; simp; rfl, g1', c', e0, s1, by rw [show (M.give j id).off id = 0 from hoff, hsz']; simpa using g3⟩⟩
      · exact absurd rfl e
  · rw [hv] at ho
    have run1 := run_append_move (P := P) (w := w) (t := t) (ty := o.type) hu hi hzv (base := a0) (l := es.length) (cap := cap) (n := ys.length) (by rw [hsz]; exact ho) (by rw [hsz]; exact hr) (by omega) (by rw [hby]; exact hfit)
    have hcapge := grownCap_ge w (es.length + ys.length) cap e
    generalize grownCap w (es.length + ys.length) cap e = cap' at run1 hcapge
    generalize hce : olds.toArray ++ news.toArray ++ Builtin.zeroCells zv.cells (cap' - (es.length + ys.length)) = ce at run1
    have hce1 : ∀ (k : Nat) (v : Value), olds[k]? = some v → ce[k]? = some v := by
      intro k v hj
      have := (List.getElem?_eq_some_iff.1 hj).1
      rw [← hce, Array.getElem?_append_left (by simp; omega), Array.getElem?_append_left (by simpa using this)]
      simpa using hj
    have hce2 : ∀ (k : Nat) (v : Value), news[k]? = some v → ce[es.length * i.size + k]? = some v := by
      intro k v hj
      have := (List.getElem?_eq_some_iff.1 hj).1
      rw [← hce, Array.getElem?_append_left (by simp; omega), Array.getElem?_append_right (by simp; omega)]
      simp only [List.size_toArray, holds, show es.length * i.size + k - es.length * i.size = k by omega]
      simpa using hj
    have hce3 : cap' * i.size ≤ ce.size := by
      have hzs : zv.cells.size = i.size := by rw [hcells]; exact hcl
      rw [← hce]
      simp only [Array.size_append, List.size_toArray, size_zeroCells, holds, hnews, hzs, ← Nat.add_mul]
      exact Nat.mul_le_mul_right _ (by omega)
    have ht1 := turn_grow (E := E) hg' (id := id) (w1 := w.drew) rfl rfl ⟨rfl, Nat.le_succ _⟩ rfl (.cells ce e (0, 0))
    have hnew : (w.drew.alloc (.cells ce e (0, 0))).heap[w.heap.size]? = some (.cells ce e (0, 0)) := alloc_new (w := w) (w1 := w.drew) rfl _
    have hold : ∀ c, c < w.heap.size → (w.drew.alloc (.cells ce e (0, 0))).heap[c]? = w.heap[c]? := fun c hc => by
      rw [alloc_heap, show w.drew.heap = w.heap from rfl, Array.getElem?_push, if_neg (by omega)]
    have hκN : ∀ c ∈ N1 ++ N2, ((M.give j id).new id w.heap.size).κ c = some id ∧ c < (w.drew.alloc (.cells ce e (0, 0))).heap.size ∧ c ≠ ((M.give j id).new id w.heap.size).blk id := fun c hc => by
      have : (M.give j id).κ c = some id ∧ c < w.heap.size := by
        rcases List.mem_append.1 hc with hc | hc
        · exact ⟨(hN1 c hc).1, (hN1 c hc).2.1⟩
        · exact ⟨(hN2 c hc).1, (hN2 c hc).2.1⟩
      refine ⟨by simp only [Mp.new, if_neg (show c ≠ w.heap.size by omega)]; exact this.1, Nat.lt_of_lt_of_le this.2 ht1.size, ?_⟩
      simp only [Mp.new, if_true]
      omega
    have hrow : RowO noOk (w.drew.alloc (.cells ce e (0, 0))) (z :: zs) w.heap.size i.size 0 (es ++ ys) (N1 ++ N2) := by
      refine d1.app b1 (fun k hk => ?_) (fun k hk => ?_) (fun c hc => hold c ?_)
      · obtain ⟨u, q1, q2⟩ := hoc k hk
        rw [cell_of hnew, Nat.zero_add, hce1 k u q1, q2]
      · obtain ⟨u, q1, q2⟩ := hnc k hk
        rw [cell_of hnew, Nat.zero_add, hce2 k u q1, q2]
      · exact hc.elim (fun h => (hN1 c h).2.1) (fun h => (hN2 c h).2.1)
    obtain ⟨F', r1, r2⟩ := hrow.rep
    have hκ' : ((M.give j id).new id w.heap.size).κ (((M.give j id).new id w.heap.size).blk id) = some id := by simp [Mp.new]
    have hg2 := hg'.turn (hdr := true) ht1 hf' (f' := .row (es ++ ys) i.size (.deep z zs) false) (fun h => by cases h) (fun _ ls => ⟨by simp, by simp⟩)
      ⟨fun _ => by simp [Mp.new], k1, fun _ => ⟨hκ', ce, e, by simpa [Mp.new] using hnew⟩, F', by simpa [Mp.new] using r1, ⟨_, by simpa [Mp.new] using hrow, hnd, hκN⟩, fun c hc => (r2 c hc).elim (hκN c) (fun h => h.elim)⟩
      (fun b hk hb => by
        have := hg.size
        simp only [Mp.new, if_neg (show b ≠ w.heap.size by omega)] at hk
        exact hg'.lent b id hb hk) hframe (fun _ _ _ _ e hk => by cases e) (fun b oo n sz' hq => by rw [hnoio id _ hf] at hq; cases hq)
    refine wp_val (v := .slice (some ⟨w.heap.size, 0, none⟩) (es.length + ys.length) cap') (w' := w.drew.alloc (.cells ce e (0, 0))) (run_append_op hop hc hx htt (by rw [hv]; exact run1)) ?_
    rw [hdst]
    refine ⟨_, _, hg2.put hdn' (s := .own id none) (fun es' sz' u' io' hf' => ?_), h⟩
    rcases putF_files.1 hf' with ⟨_, e⟩ | ⟨e, _⟩
    · cases e
      rw [hlen]
      exact ⟨_, cap', rfl, hcapge, by omega, by omega, fun _ => ⟨by simp [Mp.new], hκ', ce, _, by simpa [Mp.new] using hnew, by simpa [Mp.new] using hce3⟩⟩
    · exact absurd rfl e

end ops
end Go.VAI

namespace Go.VAI
variable {E : Env} {P : Program}

theorem nr1_kill {d j : Nat} {s : Slot} (h : nr1 d s) : nr1 d (kill1 true j s) := by
  cases s with
  | pv r bs => simp only [kill1]; split <;> first | exact trivial | exact h
  | own k sub => simp only [kill1]; split <;> first | exact trivial | exact h
  | rref k i o => simp only [kill1]; split <;> first | exact trivial | exact h
  | lf k i o ys => simp only [kill1]; split <;> first | exact trivial | exact h
  | _ => exact h

theorem nr2_kill {d j : Nat} {s : Slot} (h : nr2 d s) : nr2 d (map2 (kill1 true j) s) := by
  have one : ∀ {s : Slot}, nr1 d s → (∀ ls, kill1 true j s ≠ .ag ls) → (∀ f ls, kill1 true j s ≠ .clo f ls) → nr2 d (kill1 true j s) := fun h h1 h2 => nr2_of1 h1 h2 (nr1_kill h)
  cases s with
  | ag ls => intro s hs; obtain ⟨t, ht, rfl⟩ := List.mem_map.1 hs; exact nr1_kill (h t ht)
  | clo f ls => intro s hs; obtain ⟨t, ht, rfl⟩ := List.mem_map.1 hs; exact nr1_kill (h t ht)
  | pv r bs => exact one (s := .pv r bs) h (by simp only [kill1]; split <;> simp) (by simp only [kill1]; split <;> simp)
  | own k sub => exact one (s := .own k sub) h (by simp only [kill1]; split <;> simp) (by simp only [kill1]; split <;> simp)
  | rref k i o => exact one (s := .rref k i o) h (by simp only [kill1]; split <;> simp) (by simp only [kill1]; split <;> simp)
  | lf k i o ys => exact one (s := .lf k i o ys) h (by simp only [kill1]; split <;> simp) (by simp only [kill1]; split <;> simp)
  | _ => exact h

theorem nrS_kill {d j : Nat} {s : Slot} (h : nrS d s) : nrS d (mapS (kill1 true j) s) := by
  have one : ∀ {s : Slot}, nr2 d s → (∀ ls, map2 (kill1 true j) s ≠ .tup ls) → nrS d (map2 (kill1 true j) s) := fun h h1 => nrS_of2 h1 (nr2_kill h)
  cases s with
  | tup ls => intro s hs; obtain ⟨t, ht, rfl⟩ := List.mem_map.1 hs; exact nr2_kill (h t ht)
  | ag ls => exact one (s := .ag ls) h (by simp [map2])
  | clo f ls => exact one (s := .clo f ls) h (by simp [map2])
  | pv r bs => exact one (s := .pv r bs) h (by simp only [map2, kill1]; split <;> simp)
  | own k sub => exact one (s := .own k sub) h (by simp only [map2, kill1]; split <;> simp)
  | rref k i o => exact one (s := .rref k i o) h (by simp only [map2, kill1]; split <;> simp)
  | lf k i o ys => exact one (s := .lf k i o ys) h (by simp only [map2, kill1]; split <;> simp)
  | _ => exact h

theorem Fresh.gone1 {σ : St} {d j : Nat} (h : Fresh σ d) : Fresh (gone1 σ j) d where
  slots k := nrS_kill (h.slots k)
  files k f hf := by
    obtain ⟨_, f0, h1, h2⟩ := gone1_files.1 hf
    have h0 := h.files k f0 h1
    cases f0 with
    | cell ls =>
      simp only [killF, Option.some.injEq] at h2
      subst h2
      intro s hs
      obtain ⟨t, ht, rfl⟩ := List.mem_map.1 hs
      have h3 := h0 t ht
      cases t with
      | pv r bs => exact nr1_kill (s := .pv r bs) h3
      | own k sub => exact nr1_kill (s := .own k sub) h3
      | rref k i o => exact nr1_kill (s := .rref k i o) h3
      | lf k i o ys => exact nr1_kill (s := .lf k i o ys) h3
      | _ => exact h3
    | row es sz u io =>
      have : f = .row es sz u io := by
        cases u with
        | free => simp [killF] at h2; exact h2.symm
        | deep z0 zs => simp [killF] at h2; exact h2.symm
        | sh bs => simp only [killF] at h2; split at h2 <;> simp at h2; exact h2.symm
      subst this; exact h0
  none := by
    cases hf : (VAI.gone1 σ j).files d with
    | none => rfl
    | some f => obtain ⟨_, f0, h1, _⟩ := gone1_files.1 hf; rw [h.none] at h1; cases h1

theorem Fresh.gone {d : Nat} : ∀ {js : List Nat} {σ : St}, Fresh σ d → Fresh (gone σ js) d
  | [], _, h => h
  | j :: js, _, h => Fresh.gone (js := js) h.gone1

/-- A file less. -/
theorem Cl1.unput {M : Mp} {σ : St} {w : World} {d : Nat} {f : File} (hn : σ.files d = none) (s : Slot) (v : Value) (h : Cl1 E M (putF σ d f) w s v) : Cl1 E M σ w s v := by
  have up : ∀ {k g}, σ.files k = some g → (putF σ d f).files k = some g := fun {k g} hk => putF_files.2 (.inr ⟨fun e => (by subst e; rw [hn] at hk; cases hk), hk⟩)
  cases s with
  | pv r bs => exact h
  | own k sub => cases sub with
    | none => intro es sz u io hf; exact h es sz u io (up hf)
    | some p => obtain ⟨o, l⟩ := p; intro es sz u io hf; exact h es sz u io (up hf)
  | ref k o => intro ls hf; exact h ls (up hf)
  | rref k i o => intro es sz u io hf; exact h es sz u io (up hf)
  | lf k i o yl => intro es sz u io hf; exact h es sz u io (up hf)
  | undef => exact h
  | dead => exact h
  | _ => exact h.elim

theorem G.unput {M : Mp} {σ : St} {a : Act} {w : World} {d : Nat} {f : File} (hg : G E M (putF σ d f) a w) (hn : σ.files d = none) (hio : E.io d = none) : G E M σ a w where
  slots k := (hg.slots k).same (fun s v h => Cl1.unput hn s v h)
  tmps := hg.tmps
  files k g hf := by
    have := hg.files k g (putF_files.2 (.inr ⟨fun e => (by subst e; rw [hn] at hf; cases hf), hf⟩))
    cases g with
    | cell ls =>
      obtain ⟨h1, c, e, h2, h3⟩ := this
      refine ⟨h1, c, e, h2, ?_⟩
      have := h3.imp (g := fun x => x) (q := fun s v => Cl1 E M σ w s v ∧ v.oneCell' = true ∧ noTup s = true ∨ s = .dead) (fun s v hs => hs.imp (fun ⟨p1, p2⟩ => ⟨Cl1.unput hn s v p1, p2⟩) (fun h => h))
      simpa using this
    | row es sz u io => exact this
  defers := hg.defers
  own := hg.own
  lent := hg.lent
  frame := hg.frame
  size := hg.size
  os := hg.os
  tape := hg.tape
  out := hg.out
  iob k es sz u b hf hk := hg.iob k es sz u b (putF_files.2 (.inr ⟨fun e => (by subst e; rw [hn] at hf; cases hf), hf⟩)) hk
  io k b o n sz h := by
    obtain ⟨⟨es, u, h1, h1', h2⟩, h3⟩ := hg.io k b o n sz h
    refine ⟨⟨es, u, ?_, h1', h2⟩, h3⟩
    rcases putF_files.1 h1 with ⟨rfl, _⟩ | ⟨_, h1⟩
    · rw [hio] at h; cases h
    · exact h1

/-- A file more, of which nothing speaks yet. -/
theorem Cl1.addF {M : Mp} {σ : St} {w : World} {d : Nat} {f : File} (s : Slot) (v : Value) (hn : nr1 d s) (h : Cl1 E M σ w s v) : Cl1 E M (putF σ d f) w s v := by
  have down : ∀ {k g}, k ≠ d → (putF σ d f).files k = some g → σ.files k = some g := fun hk hf => by
    rcases putF_files.1 hf with ⟨h, _⟩ | ⟨_, h⟩
    · exact absurd h hk
    · exact h
  cases s with
  | pv r bs => exact h
  | own k sub => cases sub with
    | none => intro es sz u io hf; exact h es sz u io (down hn hf)
    | some p => obtain ⟨o, l⟩ := p; intro es sz u io hf; exact h es sz u io (down hn hf)
  | ref k o => intro ls hf; exact h ls (down hn hf)
  | rref k i o => intro es sz u io hf; exact h es sz u io (down hn hf)
  | lf k i o yl => intro es sz u io hf; exact h es sz u io (down hn hf)
  | undef => exact h
  | dead => exact h
  | _ => exact h.elim

theorem ClS.addF {M : Mp} {σ : St} {w : World} {d : Nat} {f : File} (s : Slot) (v : Value) (hn : nrS d s) (h : ClS E M σ w s v) : ClS E M (putF σ d f) w s v := by
  have h2 : ∀ s v, nr2 d s → Cl2 E M σ w s v → Cl2 E M (putF σ d f) w s v := by
    intro s v hn h
    cases s with
    | ag ls => obtain ⟨cs, rfl, h⟩ := h; exact ⟨cs, rfl, by simpa using h.imp_mem (g := fun x => x) (fun x hx y hp => Cl1.addF x y (hn x hx) hp)⟩
    | clo f ls => obtain ⟨cs, rfl, h⟩ := h; exact ⟨cs, rfl, by simpa using h.imp_mem (g := fun x => x) (fun x hx y hp => Cl1.addF x y (hn x hx) hp)⟩
    | tup ls => exact h.elim
    | pv r bs => exact Cl1.addF (σ := σ) (f := f) (.pv r bs) v hn h
    | own j sub => exact Cl1.addF (E := E) (w := w) (σ := σ) (f := f) (.own j sub) v hn h
    | ref j o => exact Cl1.addF (E := E) (w := w) (σ := σ) (f := f) (.ref j o) v hn h
    | rref j i o => exact Cl1.addF (E := E) (w := w) (σ := σ) (f := f) (.rref j i o) v hn h
    | lf j i o yl => exact Cl1.addF (E := E) (w := w) (σ := σ) (f := f) (.lf j i o yl) v hn h
    | undef => exact h
    | dead => exact h
  cases s with
  | tup ls => obtain ⟨cs, rfl, h⟩ := h; exact ⟨cs, rfl, by simpa using h.imp_mem (g := fun x => x) (fun x hx y hp => h2 x y (hn x hx) hp)⟩
  | pv r bs => exact h2 (.pv r bs) v hn h
  | ag ls => exact h2 (.ag ls) v hn h
  | own j sub => exact h2 (.own j sub) v hn h
  | ref j o => exact h2 (.ref j o) v hn h
  | rref j i o => exact h2 (.rref j i o) v hn h
  | lf j i o yl => exact h2 (.lf j i o yl) v hn h
  | clo f ls => exact h2 (.clo f ls) v hn h
  | undef => exact h
  | dead => exact h

theorem G.addF {M : Mp} {σ : St} {a : Act} {w : World} (hg : G E M σ a w) {d : Nat} (hfr : Fresh σ d) (hio : E.io d = none) {f : File} (hiof : ∀ es sz u, f ≠ .row es sz u true) (hnew : ClF E M (putF σ d f) w d f) : G E M (putF σ d f) a w where
  slots k := ClS.addF _ _ (hfr.slots k) (hg.slots k)
  tmps := hg.tmps
  files k g hj := by
    rcases putF_files.1 hj with ⟨rfl, rfl⟩ | ⟨hne, h1⟩
    · exact hnew
    · have h := hg.files k g h1
      have hn := hfr.files k g h1
      cases g with
      | cell ls =>
        obtain ⟨q1, c, e, q2, q3⟩ := h
        refine ⟨q1, c, e, q2, ?_⟩
        have := q3.imp_mem (g := fun x => x) (q := fun s v => Cl1 E M (putF σ d f) w s v ∧ v.oneCell' = true ∧ noTup s = true ∨ s = .dead)
          (fun s hs v h => h.imp (fun ⟨p1, p2⟩ => ⟨Cl1.addF s v (hn s hs) p1, p2⟩) (fun h => h))
        simpa using this
      | row es sz u io => exact h
  defers := hg.defers
  own := hg.own
  lent := hg.lent
  frame := hg.frame
  size := hg.size
  os := hg.os
  tape := hg.tape
  out := hg.out
  iob j es sz u b hj hk := by
    rcases putF_files.1 hj with ⟨rfl, rfl⟩ | ⟨hne, h1⟩
    · exact absurd rfl (hiof _ _ _)
    · exact hg.iob _ _ _ _ _ h1 hk
  io i b o n sz h := by
    have hi : i ≠ d := by intro e; subst e; rw [hio] at h; cases h
    obtain ⟨⟨es, u, h1, h2⟩, h3⟩ := hg.io i b o n sz h
    exact ⟨⟨es, u, putF_files.2 (.inr ⟨hi, h1⟩), h2⟩, h3⟩

section ops
variable {M : Mp} {σ : St} {a : Act} {w : World} {o : Oper} {K : St → Prop} {Q : Exit → Act → World → Prop}

/-- The cells of a row that is built. -/
theorem build_run (hT : TTok P) (hg : G E M σ a w) {t n : Nat} {ps : Array (Nat × Operand)} {e : Nat} {i : TI} (ht : elemOf t = some (e, i)) (hn : ps.size = n ∧ n * i.size ≤ 16777216 ∧ i.size ≠ 0) {es : List PV} (hes : partsOf (stdA P) σ i 0 ps.toList = some es) :
    ∃ c : Array Value, (Instr.buildSlice t n (ps.map fun (j, x) => (j, a.eval x))).run P w = .ok (.slice (some ⟨w.heap.size, 0, none⟩) n n) (w.alloc (.cells c e (0, 0))) ∧ c.size = n * i.size ∧
      ∀ (j : Nat) (y : Nat × Operand), ps.toList[j]? = some y → ∀ (q : Nat) (u : Value), (a.eval y.2).cells[q]? = some u → q < i.size → c[j * i.size + q]? = some u := by
  obtain ⟨hn1, hn2, hn3⟩ := hn
  obtain ⟨hu, inf, zv, cs, hi, hsz, hby, hzv, hzero, hcl, hone, hcells⟩ := elem_types hT ht
  obtain ⟨h1, h2, h3⟩ := parts_rep hg hes
  have hlen : es.length = n := by rw [h2]; simpa using hn1
  have hpos : 0 < i.size := Nat.pos_of_ne_zero hn3
  have hfill : ∃ c : Array Value, Instr.fill (fun j => some (j * inf.size, inf.size)) ((Array.range (n * inf.size)).map (zv.cells[· % zv.cells.size]!)) (ps.map fun (j, x) => (j, a.eval x)).toList = some c ∧ c.size = n * i.size ∧
      ∀ j v, (ps.toList[j]?).map (fun y => a.eval y.2) = some v → ∀ q u, v.cells[q]? = some u → q < i.size → c[j * i.size + q]? = some u := by
    have hps : (ps.map fun (j, x) => (j, a.eval x)).toList = (((ps.toList.map fun x => a.eval x.2).zipIdx 0).map fun x => (x.2, x.1)) := by
      rw [Array.toList_map]; exact h1
    obtain ⟨r, f1, f2, f3⟩ := Great.fill_dense (s := inf.size) (by omega) (ps.toList.map fun x => a.eval x.2) 0 ((Array.range (n * inf.size)).map (zv.cells[· % zv.cells.size]!)) (fun v hv => by
        obtain ⟨y, hy, rfl⟩ := List.mem_map.1 hv
        obtain ⟨j, hj, hjy⟩ := List.getElem_of_mem hy
        obtain ⟨y', cs', F, k1, k2, k3, k4, _⟩ := h3 j (es[j]'(by omega)) (List.getElem?_eq_getElem _)
        rw [List.getElem?_eq_getElem hj, hjy] at k1
        cases k1
        have := k4.length
        rw [k2, hsz]
        show cs'.length = _
        omega) (by simp [hn1])
    refine ⟨r, by rw [hps]; exact f1, by rw [f2]; simp [hsz], fun j v hv q u hq hlt => ?_⟩
    have hj : j < n := by
      cases hy : ps.toList[j]? with
      | none => simp [hy] at hv
      | some y => have := (List.getElem?_eq_some_iff.1 hy).1; simpa [hn1] using this
    rw [f3]
    have e1 : (j * i.size + q) / inf.size = j := by
      rw [hsz, Nat.mul_comm, Nat.mul_add_div hpos, Nat.div_eq_of_lt hlt, Nat.add_zero]
    have e2 : (j * i.size + q) % inf.size = q := by
      rw [hsz, Nat.mul_comm, Nat.mul_add_mod, Nat.mod_eq_of_lt hlt]
    have e3 : j * i.size + q < (0 + (ps.toList.map fun x => a.eval x.2).length) * inf.size := by
      simp only [List.length_map, Array.length_toList, hn1, Nat.zero_add, hsz]
      calc j * i.size + q < j * i.size + i.size := by omega
        _ = (j + 1) * i.size := by rw [Nat.add_mul, Nat.one_mul]
        _ ≤ n * i.size := Nat.mul_le_mul_right _ hj
    rw [if_pos ⟨by omega, e3⟩, e1, e2, Nat.sub_zero, List.getElem?_map, hv]
    exact hq
  obtain ⟨c, hc1, hc2, hc3⟩ := hfill
  refine ⟨c, ?_, hc2, fun j y hy q u => hc3 j (a.eval y.2) (by rw [hy]; rfl) q u⟩
  by_cases hz : n * inf.size = 0
  · have hn0 : n = 0 := by
      rcases Nat.mul_eq_zero.1 hz with h | h
      · exact h
      · omega
    subst hn0
    have hps0 : ps = #[] := by simpa using hn1
    subst hps0
    have : c = #[] := by
      have : c.size = 0 := by simpa using hc2
      simpa using this
    subst this
    simp [Instr.buildSlice, run_underlying hu, sizeOf, typeInfo, hi, Instr.fill, newRow, Array.range_zero']
  · exact run_buildSlice w t e n _ c inf zv hu hi hzv (by rw [hsz]; omega) hz hc1

/-- Elements that go over, as they stand in cells of a later world. -/
theorem parts_take (hg : G E M σ a w) {w' : World} {b : Nat} {e : TI} {z : Nat} {zs : List Nat} : ∀ {ps : List (Nat × Operand)} {k o : Nat} {es : List PV} {js : List Nat}, partsOf (stdA P) σ e k ps = some es → takeP σ z zs ps = some js → js.Nodup →
    (∀ c, (∃ j ∈ js, M.κ c = some j) → w'.heap[c]? = w.heap[c]?) →
    (∀ (j : Nat) (y : Nat × Operand), ps[j]? = some y → ∀ (q : Nat) (u : Value), (a.eval y.2).cells[q]? = some u → q < e.size → w'.cell? ⟨b, o + j * e.size + q, none⟩ = some u) →
    (∀ x ∈ es, (leaves x).length = e.size) ∧ ∃ N, CellsO (LeafR noOk w' zs z) w' b o (es.flatMap leaves) N ∧ N.Nodup ∧ ∀ c ∈ N, c < w.heap.size ∧ ∃ j ∈ js, M.κ c = some j
  | [], k, o, es, js, h1, h2, _, _, _ => by
    simp only [partsOf, Option.some.injEq] at h1
    simp only [takeP, Option.some.injEq] at h2
    subst h1; subst h2
    exact ⟨by simp, [], rfl, by simp, by simp⟩
  | (i, x) :: ps, k, o, es, js, h1, h2, hnd, hw, hc => by
    simp only [partsOf] at h1
    simp only [takeP] at h2
    split at h1
    · split at h1
      · rename_i r hr
        split at h1
        · rename_i hl
          split at h1
          · rename_i rs hrs
            cases h1
            split at h2
            · rename_i ys js1 ks htk htp
              cases h2
              obtain ⟨hd1, hd2, hd3⟩ := List.nodup_append.1 hnd
              obtain ⟨q0, N2, q1, q2, q3⟩ := parts_take hg (o := o + e.size) hrs htp hd2 (fun c ⟨j, hj, hk⟩ => hw c ⟨j, by simp [hj], hk⟩) (fun j y hy q u hq hlt => by
                rw [show o + e.size + j * e.size + q = o + (j + 1) * e.size + q by rw [Nat.add_mul]; omega]; exact hc (j + 1) y (by simpa using hy) q u hq hlt)
              have hry := take_leaves htk hr
              obtain ⟨cs, c1, c2'⟩ := sleaves_cl (eval_cl hg x) (take_live htk)
              have c2 : All2 (Cl1 E M σ w) (sleaves (eval σ x)) cs := by have := c2'.imp (g := fun x => x) (q := Cl1 E M σ w) (fun _ _ h => h.1); simpa using this
              have hcl : cs.length = e.size := by rw [← c2.length, optAll_len (take_pv1 (A := stdA P) htk), ← hry]; exact hl.1
              obtain ⟨N1, t1, t2, t3⟩ := take_cells hg (w' := w') (b := b) (o := o) c2 htk hd1 (fun c ⟨j, hj, hk⟩ => hw c ⟨j, by simp [hj], hk⟩) (fun m v hv => by
                have := (List.getElem?_eq_some_iff.1 hv).1
                have := hc 0 (i, x) rfl m v (by rw [c1]; simpa using hv) (by omega)
                simpa using this)
              refine ⟨fun y hy => ?_, N1 ++ N2, ?_, ?_, fun c hc => ?_⟩
              · rcases List.mem_cons.1 hy with rfl | hy
                · exact hl.1
                · exact q0 y hy
              · rw [List.flatMap_cons, hry]
                refine t1.app ?_
                rw [show ys.length = e.size by rw [← hry]; exact hl.1]; exact q1
              · refine List.nodup_append.2 ⟨t2, q2, fun c h1 d h2 e => ?_⟩
                subst e
                obtain ⟨_, j, hj, e1⟩ := t3 c h1
                obtain ⟨_, i, hi, e2⟩ := q3 c h2
                rw [e1] at e2; cases e2
                exact hd3 _ hj _ hi rfl
              · rcases List.mem_append.1 hc with hc | hc
                · obtain ⟨p1, j, p2, p3⟩ := t3 c hc; exact ⟨p1, j, by simp [p2], p3⟩
                · obtain ⟨p1, j, p2, p3⟩ := q3 c hc; exact ⟨p1, j, by simp [p2], p3⟩
            · cases h2
          · cases h1
        · cases h1
      · cases h1
    · cases h1

theorem takeP_io (hg : G E M σ a w) {z : Nat} {zs : List Nat} : ∀ {ps : List (Nat × Operand)} {js : List Nat}, takeP σ z zs ps = some js → ∀ j ∈ js, E.io j = none
  | [], js, h => by simp only [takeP, Option.some.injEq] at h; subst h; simp
  | p :: ps, js, h => by
    simp only [takeP] at h
    split at h
    · rename_i ys js1 ks htk htp
      cases h
      intro j hj
      exact (List.mem_append.1 hj).elim (take_io hg htk j) (takeP_io hg htp j)
    · cases h

/-- A row whose rows are its own, new. -/
theorem made_deep (hg : G E M σ a w) {d : Nat} (hfr : Fresh σ d) (hκ : ∀ b, M.κ b ≠ some d) (hio : E.io d = none) {c : Array Value} {e : TypeId} {es : List PV} {sz z : Nat} {zs js : List Nat} (hj : ∀ j ∈ js, E.io j = none)
    {N : List Nat} (hrow : RowO noOk (w.alloc (.cells c e (0, 0))) (z :: zs) w.heap.size sz 0 es N) (hnd : N.Nodup) (hN : ∀ b ∈ N, b < w.heap.size ∧ ∃ j ∈ js, M.κ b = some j) {cap : Nat} (hcap : es.length ≤ cap) (hsz : cap * sz ≤ c.size) (hdn : d < σ.n) :
    ∃ M', G E M' (put (putF (gone σ js) d (.row es sz (.deep z zs) false)) d (.own d none)) (a.put (some d) (.slice (some ⟨w.heap.size, 0, none⟩) es.length cap)) (w.alloc (.cells c e (0, 0))) := by
  have g1 := made_row hg hfr hκ hio (w1 := w) rfl rfl TapeLe.rfl' rfl (c := c) (e := e) (es := []) (sz := sz) (u := .free) (.nil _ _ _) rfl rfl (by simp [rubs])
  have g2 := g1.unput hfr.none hio
  have g3 := g2.gives (id := d) (js := js) hj (fun es sz u h => by rw [hfr.none] at h; cases h)
  have hb : ((M.new d w.heap.size).gives d js).blk d = w.heap.size ∧ ((M.new d w.heap.size).gives d js).off d = 0 := by
    have := Mp.gives_blk (id := d) (js := js) (M := M.new d w.heap.size)
    rw [this.1, this.2]; simp [Mp.new]
  have hκd : ((M.new d w.heap.size).gives d js).κ w.heap.size = some d := Mp.gives_id (by simp [Mp.new])
  have hnew : (w.alloc (.cells c e (0, 0))).heap[w.heap.size]? = some (.cells c e (0, 0)) := alloc_new rfl _
  have hκN : ∀ b ∈ N, ((M.new d w.heap.size).gives d js).κ b = some d ∧ b < (w.alloc (.cells c e (0, 0))).heap.size ∧ b ≠ w.heap.size := fun b hb => by
    obtain ⟨h1, j, h2, h3⟩ := hN b hb
    refine ⟨Mp.gives_mem h2 (by simp only [Mp.new, if_neg (show b ≠ w.heap.size by omega)]; exact h3), ?_, by omega⟩
    rw [World.size_alloc]; omega
  obtain ⟨F, r1, r2⟩ := hrow.rep
  have g4 := g3.addF (f := .row es sz (.deep z zs) false) hfr.gone hio (by simp)
    ⟨fun _ => hb.2, by simp [rubs], fun _ => ⟨by rw [hb.1]; exact hκd, c, e, by rw [hb.1]; exact hnew⟩, F, by rw [hb.1, hb.2]; exact r1, ⟨N, by rw [hb.1, hb.2]; exact hrow, hnd, by rw [hb.1]; exact hκN⟩, fun x hx => by
      rw [hb.1]; exact (r2 x hx).elim (hκN x) (fun h => h.elim)⟩
  have hdn' : d < (putF (gone σ js) d (.row es sz (.deep z zs) false)).n := by
    have : (putF (gone σ js) d (.row es sz (.deep z zs) false)).n = σ.n := gone_n
    omega
  refine ⟨_, g4.put hdn' (s := .own d none) (fun es' sz' u' io' hf => ?_)⟩
  rcases putF_files.1 hf with ⟨_, e⟩ | ⟨e, _⟩
  · cases e
    exact ⟨_, cap, rfl, hcap, by simp, by simpa using hcap, fun _ => ⟨by rw [hb.1, hb.2]; simp, by rw [hb.1]; exact hκd, c, _, by rw [hb.1]; exact hnew, by rw [hb.2]; simpa using hsz⟩⟩
  · exact absurd rfl e

theorem deepI_ok (hT : TTok P) (hg : G E M σ a w) (hd : o.dst.all (fun d => Nat.blt d σ.n) = true) {z : Nat} {zs : List Nat} (h : deepI (stdA P) o z zs σ K) : o.wp P a w (Nx E K) Q := by
  unfold deepI at h
  split at h
  · rename_i t n ps hop
    split at h
    · rename_i d e i hdst ht
      split at h
      · rename_i hn
        obtain ⟨hlt, hio, hg1, hfr, hκ, hK⟩ := mkF_ok hg h
        have hc := cls_lt hlt
        split at hK
        · rename_i es js hes hjs
          split at hK
          · rename_i hnd
            have hnd := nodupN_iff.1 hnd
            obtain ⟨c, run, c1, c2⟩ := build_run hT hg1 ht hn hes
            have hlen : es.length = n := by obtain ⟨_, h2, _⟩ := parts_rep hg1 hes; rw [h2]; simpa using hn.1
            have hnew : (w.alloc (.cells c e (0, 0))).heap[w.heap.size]? = some (.cells c e (0, 0)) := alloc_new rfl _
            obtain ⟨q0, N, q1, q2, q3⟩ := parts_take hg1 (w' := w.alloc (.cells c e (0, 0))) (b := w.heap.size) (o := 0) hes hjs hnd (fun b ⟨j, hj, hk⟩ => by
                have := hg1.own _ _ hk
                rw [alloc_heap, Array.getElem?_push, if_neg (by omega)]) (fun j y hy q u hq hlt => by
                rw [cell_of hnew, Nat.zero_add]; exact c2 j y hy q u hq hlt)
            obtain ⟨M', hg2⟩ := made_deep hg1 (hfr d hc) (fun b => hκ d b hc) (noIo_none hio hc) (c := c) (e := e) (es := es) (sz := i.size) (z := z) (zs := zs) (js := js) (takeP_io hg1 hjs) (N := N) ⟨q0, q1⟩ q2 q3 (cap := n) (by omega) (by omega) (lt_of_dst hd hdst)
            refine wp_val (v := .slice (some ⟨w.heap.size, 0, none⟩) n n) (w' := w.alloc (.cells c e (0, 0))) ?_ ?_
            · simp only [execOp, hop, Sem.run_bind, run]; rfl
            · rw [hdst]
              rw [hlen] at hg2
              exact ⟨_, _, hg2, hK⟩
          · exact hK.elim
        · exact hK.elim
      · exact h.elim
    · exact h.elim
  · rename_i t l c hop
    split at h
    · rename_i d e i k n hdst ht hn
      split at h
      · rename_i hs
        simp only [Bool.and_eq_true] at hs
        split at h
        · rename_i y hy
          obtain ⟨hn0, hfit, h⟩ := h
          have h : mkF (stdA P) σ d (fun σ => K (put (putF σ d (.row (List.replicate n.toNat y) i.size (.deep z zs) false)) d (.own d none))) := h
          obtain ⟨hlt, hio, hg1, hfr, hκ, hK⟩ := mkF_ok hg h
          have hc := cls_lt hlt
          obtain ⟨hu, inf, zv, cs, hi, hsz, hby, hzv, hzero, hcl, hone, hcells⟩ := elem_types hT ht
          have hv := intOf_val hn (eval_cl hg l)
          have hv' : a.eval c = .int k n := by rw [← sameOp_eval hs.1 a]; exact hv
          have hnn : (n.toNat : Int) = n := Int.toNat_of_nonneg hn0
          have hfit' : n.toNat * (i.bytes + 1) ≤ 140737488355328 := hfit
          have hb1 : n.toNat * i.bytes ≤ 140737488355328 := by rw [Nat.mul_add] at hfit'; omega
          have hb2 : n.toNat ≤ 140737488355328 := by rw [Nat.mul_add] at hfit'; omega
          have hb3 : (inf.bytes : Int) * n ≤ 281474976710656 := by
            rw [hby, ← hnn, Int.mul_comm, ← Int.natCast_mul]; omega
          have run := run_make (P := P) w t e inf zv hu hi hzv k k n n hn0 (Int.le_refl _) hb3 (by omega)
          have hlz : (leaves y) = i.zero := by
            unfold ofLeaves at hy
            split at hy
            · cases hy; rfl
            · split at hy
              · rename_i x hx
                cases hy
                rw [hx]
                rw [hzero] at hx
                cases cs with
                | nil => simp at hx
                | cons v cs => simp at hx; rw [← hx.1]; rfl
              · cases hy
          have hnew : (w.alloc (.cells (madeCells zv.cells (n.toNat * inf.size)) e (0, 0))).heap[w.heap.size]? = some (.cells (madeCells zv.cells (n.toNat * inf.size)) e (0, 0)) := alloc_new rfl _
          have hll : ∀ x ∈ List.replicate n.toNat y, (leaves x).length = i.size := fun x hx => by
            rw [(List.mem_replicate.1 hx).2, hlz, hzero]; simpa using hcl
          have hflat : ∀ (m : Nat), (List.replicate m y).flatMap leaves = (List.replicate m cs).flatten.map PV.val := by
            intro m
            induction m with
            | zero => rfl
            | succ m ih => rw [List.replicate_succ, List.flatMap_cons, ih, hlz, hzero, List.replicate_succ, List.flatten_cons, List.map_append]
          have hcs : ∀ (m j : Nat) (v : Value), (List.replicate m cs).flatten[j]? = some v → v ∈ cs ∧ cs[j % i.size]? = some v ∧ j < m * i.size := by
            intro m
            induction m with
            | zero => intro j v h; simp at h
            | succ m ih =>
              intro j v h
              rw [List.replicate_succ, List.flatten_cons] at h
              by_cases hj : j < cs.length
              · rw [List.getElem?_append_left hj] at h
                refine ⟨List.mem_of_getElem? h, ?_, ?_⟩
                · rw [Nat.mod_eq_of_lt (by omega)]; exact h
                · rw [Nat.add_mul]; omega
              · rw [List.getElem?_append_right (by omega)] at h
                obtain ⟨h1, h2, h3⟩ := ih _ _ h
                refine ⟨h1, ?_, ?_⟩
                · rw [← h2, hcl]
                  congr 1
                  have e1 : j = (j - i.size) + i.size := by omega
                  conv => lhs; rw [e1, Nat.add_mod_right]
                · rw [Nat.add_mul]; omega
          have hrow : RowO noOk (w.alloc (.cells (madeCells zv.cells (n.toNat * inf.size)) e (0, 0))) (z :: zs) w.heap.size i.size 0 (List.replicate n.toNat y) [] := by
            refine ⟨hll, CellsO.vals (fun v => ⟨rfl, rfl⟩) (fun j x hx => ?_)⟩
            rw [hflat, List.getElem?_map] at hx
            cases hv : (List.replicate n.toNat cs).flatten[j]? with
            | none => rw [hv] at hx; cases hx
            | some v =>
              rw [hv] at hx
              obtain ⟨p1, p2, p3⟩ := hcs _ _ _ hv
              refine ⟨v, (Option.some.inj hx).symm, hone v p1, ?_⟩
              have hpos : 0 < i.size := by have := (List.getElem?_eq_some_iff.1 p2).1; omega
              have hzs : zv.cells.size = i.size := by rw [hcells]; exact hcl
              rw [cell_of hnew, Nat.zero_add, madeCells_get (by rw [hsz]; omega) (by rw [hzs]; exact hpos)]
              have h5 : zv.cells[j % zv.cells.size]? = some v := by rw [hzs, hcells]; simpa using p2
              exact (Array.getElem?_eq_getElem _).symm.trans h5
          obtain ⟨M', hg2⟩ := made_deep hg1 (hfr d hc) (fun b => hκ d b hc) (noIo_none hio hc) (c := madeCells zv.cells (n.toNat * inf.size)) (e := e) (es := List.replicate n.toNat y) (sz := i.size) (z := z) (zs := zs) (js := []) (by simp) (N := []) hrow (by simp) (by simp) (cap := n.toNat) (by simp) (by simp [size_madeCells, hsz]) (lt_of_dst hd hdst)
          refine wp_val (v := .slice (some ⟨w.heap.size, 0, none⟩) n.toNat n.toNat) (w' := w.alloc (.cells (madeCells zv.cells (n.toNat * inf.size)) e (0, 0))) ?_ ?_
          · simp only [execOp, hop, hv, hv', Sem.run_bind, run]; rfl
          · rw [hdst]
            simp only [List.length_replicate] at hg2
            exact ⟨_, _, hg2, hK⟩
        · exact h.elim
      · exact h.elim
    · exact h.elim
  · exact h.elim

theorem op_append (hT : TTok P) (hg : G E M σ a w) {d : Nat} (hdst : o.dst = some d) (hdn : d < σ.n) {c : Call} (hop : o.op = .call c) (hc : c.callee = .builtin .append) {x y : Operand} (hx : c.args.toList = [x, y]) {t : Nat} (htt : c.argTypes.toList = [t, t])
    {e : Nat} {i : TI} (ht : elemOf t = some (e, i)) (h : appendS (stdA P) i d (eval σ x) (eval σ y) σ K) : o.wp P a w (Nx E K) Q := by
  cases hdp : deepPair σ i.size (eval σ x) (eval σ y) with
  | none => exact op_appendN hT hg hdst hdn hop hc hx htt ht hdp h
  | some p =>
    obtain ⟨id, j, es, ys, z, zs⟩ := p
    unfold appendS at h
    rw [hdp] at h
    obtain ⟨hfit, h⟩ := h
    unfold deepPair at hdp
    split at hdp
    · rename_i id' j' hx' hy'
      split at hdp
      · rename_i es' s1 z1 zs1 ys' s2 z2 zs2 hf1 hf2
        split at hdp
        · rename_i hq
          cases hdp
          simp only [Bool.and_eq_true, beq_iff_eq, bne_iff_ne, ne_eq] at hq
          obtain ⟨⟨⟨⟨rfl, rfl⟩, rfl⟩, rfl⟩, hne⟩ := hq
          have hxv := eval_cl hg x
          rw [hx'] at hxv
          have hyv := eval_cl hg y
          rw [hy'] at hyv
          refine op_append_deep hT hg hdst hdn hop hc hx htt ht hf1 hf2 hne (hxv _ _ _ _ hf1) (hyv _ _ _ _ hf2) ?_ h
          simpa [stdA] using hfit
        · cases hdp
      · cases hdp
    · cases hdp

end ops
end Go.VAI
