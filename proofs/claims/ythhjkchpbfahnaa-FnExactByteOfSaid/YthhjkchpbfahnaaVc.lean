import Derived.Test.YthhjkchpbfahnaaVb
import Derived.LoopN
namespace Go.VAI
variable {E : Env} {P : Program}

structure Grow (d : Nat) (M M' : Mp) (w w' : World) : Prop where
  heap : ∀ b, b < w.heap.size → w'.heap[b]? = w.heap[b]?
  size : w.heap.size ≤ w'.heap.size
  κ : ∀ b, b < w.heap.size → M'.κ b = M.κ b
  κn : ∀ b j, w.heap.size ≤ b → M'.κ b = some j → cls j = d ∧ b = M'.blk j ∧ b < w'.heap.size
  blk : ∀ j, cls j ≠ d → M'.blk j = M.blk j ∧ M'.off j = M.off j
  os : w'.os = w.os
  tape : TapeLe w w'
  out : w'.output = w.output

section grow
variable {M M' : Mp} {σ : St} {a : Act} {w w' : World} {d : Nat}

theorem Grow.good (h : Grow d M M' w w') {bs F : List Nat} (hG : Good E M w bs F) : Good E M' w' bs F := by
  intro b hb
  obtain ⟨h1, h2⟩ := hG b hb
  exact ⟨Nat.lt_of_lt_of_le h1 h.size, by rw [h.κ b h1]; exact h2⟩

theorem Grow.same (h : Grow d M M' w w') {bs F : List Nat} (hG : Good E M w bs F) : ∀ b ∈ F, w'.heap[b]? = w.heap[b]? := fun b hb => h.heap b (hG b hb).1

theorem Grow.hdr (h : Grow d M M' w w') (hg : G E M σ a w) {j n sz o l : Nat} {v : Value} (hj : cls j ≠ d) (hh : Hdr M w j n sz o l v) : Hdr M' w' j n sz o l v := by
  obtain ⟨a, cap, h1, h2, h3, h4, h5⟩ := hh
  refine ⟨a, cap, h1, h2, h3, h4, fun h0 => ?_⟩
  obtain ⟨k1, k2, c, e, k3, k4⟩ := h5 h0
  obtain ⟨b1, b2⟩ := h.blk j hj
  have hb := (hg.own _ _ k2).1
  rw [b1, b2]
  exact ⟨k1, by rw [h.κ _ hb]; exact k2, c, e, by rw [h.heap _ hb]; exact k3, k4⟩

theorem putFs_other {σ : St} : ∀ {fs : List (Nat × File)} {j : Nat}, (∀ p ∈ fs, p.1 ≠ j) → (putFs σ fs).files j = σ.files j := by
  intro fs
  induction fs generalizing σ with
  | nil => intro j _; rfl
  | cons p fs ih =>
    intro j h
    obtain ⟨id, f⟩ := p
    simp only [putFs]
    rw [ih (fun q hq => h q (by simp [hq]))]
    have := h (id, f) (by simp)
    simp only [putF, upd]
    rw [if_neg (fun e => this e.symm)]

theorem putFs_slots {σ : St} : ∀ {fs : List (Nat × File)}, (putFs σ fs).slots = σ.slots ∧ (putFs σ fs).n = σ.n := by
  intro fs
  induction fs generalizing σ with
  | nil => exact ⟨rfl, rfl⟩
  | cons p fs ih => obtain ⟨id, f⟩ := p; exact ⟨(ih (σ := putF σ id f)).1, (ih (σ := putF σ id f)).2⟩

theorem putFs_in {σ : St} : ∀ {fs : List (Nat × File)}, (fs.map Prod.fst).Nodup → ∀ p ∈ fs, (putFs σ fs).files p.1 = some p.2 := by
  intro fs
  induction fs generalizing σ with
  | nil => intro _ p hp; simp at hp
  | cons q fs ih =>
    intro hn p hp
    obtain ⟨id, f⟩ := q
    simp only [List.map_cons, List.nodup_cons] at hn
    simp only [putFs]
    rcases List.mem_cons.1 hp with rfl | hp
    · rw [putFs_other (fun q hq e => hn.1 (by rw [← show q.1 = id from e]; exact List.mem_map_of_mem hq))]
      simp [putF, upd]
    · exact ih hn.2 p hp

theorem Grow.cl1 (h : Grow d M M' w w') (hg : G E M σ a w) {fs : List (Nat × File)} (hfs : ∀ p ∈ fs, cls p.1 = d) (s : Slot) (v : Value) (hn : ∀ id, cls id = d → nr1 id s) (hc : Cl1 E M σ w s v) : Cl1 E M' (putFs σ fs) w' s v := by
  have hfile : ∀ {j : Nat}, cls j ≠ d → (putFs σ fs).files j = σ.files j := fun hj => putFs_other (fun p hp e => hj (by rw [← e]; exact hfs p hp))
  cases s with
  | pv r bs => obtain ⟨F, h1, h2⟩ := hc; exact ⟨F, h1.mono (h.same h2), h.good h2⟩
  | own j sub =>
    have hj : cls j ≠ d := fun e => hn j e rfl
    cases sub with
    | none => intro es sz u io hf; rw [hfile hj] at hf; exact h.hdr hg hj (hc _ _ _ _ hf)
    | some p => obtain ⟨o, l⟩ := p; intro es sz u io hf; rw [hfile hj] at hf; exact h.hdr hg hj (hc _ _ _ _ hf)
  | ref j o =>
    have hj : cls j ≠ d := fun e => hn j e rfl
    intro ls hf; rw [hfile hj] at hf; rw [(h.blk j hj).1]; exact hc _ hf
  | rref j i o =>
    have hj : cls j ≠ d := fun e => hn j e rfl
    intro es sz u io hf; rw [hfile hj] at hf; rw [(h.blk j hj).1, (h.blk j hj).2]; exact hc _ _ _ _ hf
  | undef => exact hc
  | dead => exact hc
  | _ => exact hc.elim

theorem Grow.clS (h : Grow d M M' w w') (hg : G E M σ a w) {fs : List (Nat × File)} (hfs : ∀ p ∈ fs, cls p.1 = d) (s : Slot) (v : Value) (hn : ∀ id, cls id = d → nrS id s) (hc : ClS E M σ w s v) : ClS E M' (putFs σ fs) w' s v := by
  have h2 : ∀ s v, (∀ id, cls id = d → nr2 id s) → Cl2 E M σ w s v → Cl2 E M' (putFs σ fs) w' s v := by
    intro s v hn hc
    cases s with
    | ag ls => obtain ⟨cs, rfl, hc⟩ := hc; exact ⟨cs, rfl, by simpa using hc.imp_mem (g := fun x => x) (fun x hx y hp => h.cl1 hg hfs x y (fun id hid => hn id hid x hx) hp)⟩
    | clo f ls => obtain ⟨cs, rfl, hc⟩ := hc; exact ⟨cs, rfl, by simpa using hc.imp_mem (g := fun x => x) (fun x hx y hp => h.cl1 hg hfs x y (fun id hid => hn id hid x hx) hp)⟩
    | pv r bs => exact h.cl1 hg hfs (.pv r bs) v hn hc
    | own j sub => exact h.cl1 hg hfs (.own j sub) v hn hc
    | ref j o => exact h.cl1 hg hfs (.ref j o) v hn hc
    | rref j i o => exact h.cl1 hg hfs (.rref j i o) v hn hc
    | undef => exact hc
    | dead => exact hc
    | tup ls => exact hc.elim
  cases s with
  | tup ls => obtain ⟨cs, rfl, hc⟩ := hc; exact ⟨cs, rfl, by simpa using hc.imp_mem (g := fun x => x) (fun x hx y hp => h2 x y (fun id hid => hn id hid x hx) hp)⟩
  | pv r bs => exact h2 (.pv r bs) v hn hc
  | ag ls => exact h2 (.ag ls) v hn hc
  | own j sub => exact h2 (.own j sub) v hn hc
  | ref j o => exact h2 (.ref j o) v hn hc
  | rref j i o => exact h2 (.rref j i o) v hn hc
  | clo f ls => exact h2 (.clo f ls) v hn hc
  | undef => exact hc
  | dead => exact hc

theorem G.grow (hg : G E M σ a w) (h : Grow d M M' w w') (hfr : ∀ id, cls id = d → Fresh σ id) (hκ : ∀ id b, cls id = d → M.κ b ≠ some id) (hio : NoIo E d) {fs : List (Nat × File)} (hfs : ∀ p ∈ fs, cls p.1 = d) (hiof : ∀ id es sz u, cls id = d → (putFs σ fs).files id ≠ some (.row es sz u true))
    (hnew : ∀ id f, cls id = d → (putFs σ fs).files id = some f → ClF E M' (putFs σ fs) w' id f) : G E M' (putFs σ fs) a w' where
  slots k := by
    rw [putFs_slots.1]
    exact h.clS hg hfs _ _ (fun id hid => (hfr id hid).slots k) (hg.slots k)
  tmps := by rw [putFs_slots.2]; exact hg.tmps
  files j g hj := by
    by_cases hc : cls j = d
    · exact hnew j g hc hj
    · rw [putFs_other (fun p hp e => hc (by rw [← e]; exact hfs p hp))] at hj
      have h0 := hg.files j g hj
      have hn : ∀ id, cls id = d → nrF id g := fun id hid => (hfr id hid).files j g hj
      cases g with
      | cell ls =>
        obtain ⟨q1, c, e, q2, q3⟩ := h0
        have hb := (hg.own _ _ q1).1
        refine ⟨by rw [(h.blk j hc).1, h.κ _ hb]; exact q1, c, e, by rw [(h.blk j hc).1, h.heap _ hb]; exact q2, ?_⟩
        have := q3.imp_mem (g := fun x => x) (q := fun s v => Cl1 E M' (putFs σ fs) w' s v ∧ v.oneCell' = true ∧ noTup s = true ∨ s = .dead)
          (fun s hs v hh => hh.imp (fun ⟨p1, p2⟩ => ⟨h.cl1 hg hfs s v (fun id hid => hn id hid s hs) p1, p2⟩) (fun hh => hh))
        simpa using this
      | row es sz u io =>
        obtain ⟨q0, q1, q2, F, q3, q4⟩ := h0
        refine ⟨by rw [(h.blk j hc).2]; exact q0, q1, fun hes => ?_, F, ?_, ?_⟩
        · obtain ⟨k1, c, e, k2⟩ := q2 hes
          have hb := (hg.own _ _ k1).1
          exact ⟨by rw [(h.blk j hc).1, h.κ _ hb]; exact k1, c, e, by rw [(h.blk j hc).1, h.heap _ hb]; exact k2⟩
        · rw [(h.blk j hc).1, (h.blk j hc).2]
          have hF : ∀ b ∈ F, w'.heap[b]? = w.heap[b]? := by
            cases u with
            | free => simp [GoodU] at q4; subst q4; simp
            | sh bs => exact h.same q4
          by_cases hes : es = []
          · subst hes; cases q3; exact .nil _ _ _
          · obtain ⟨k1, _⟩ := q2 hes
            exact q3.mono (h.heap _ (hg.own _ _ k1).1) hF
        · cases u with
          | free => exact q4
          | sh bs => exact h.good q4
  defers := hg.defers
  own b j hb := by
    rcases Nat.lt_or_ge b w.heap.size with hlt | hge
    · rw [h.κ b hlt] at hb
      refine ⟨Nat.lt_of_lt_of_le hlt h.size, ?_⟩
      have hj : cls j ≠ d := fun e => hκ j b e hb
      rw [(h.blk j hj).1]; exact (hg.own b j hb).2
    · obtain ⟨_, h2, h3⟩ := h.κn b j hge hb
      exact ⟨h3, h2⟩
  lent b j hb hk := by
    have hb' := Nat.lt_of_lt_of_le hb hg.size
    rw [h.κ b hb'] at hk
    exact hg.lent b j hb hk
  frame b hb hno := by
    rw [h.heap b (Nat.lt_of_lt_of_le hb hg.size)]
    exact hg.frame b hb hno
  size := Nat.le_trans hg.size h.size
  os := h.os.trans hg.os
  tape := hg.tape.trans h.tape
  out := h.out.trans hg.out
  iob j es sz u b hj hk := by
    by_cases hc : cls j = d
    · exact absurd hj (hiof j es sz u hc)
    · rw [putFs_other (fun p hp e => hc (by rw [← e]; exact hfs p hp))] at hj
      have hb0 : b < w.heap.size := by
        rcases Nat.lt_or_ge b w.heap.size with hb | hb
        · exact hb
        · exact absurd (h.κn b j hb hk).1 hc
      rw [h.κ b hb0] at hk
      exact hg.iob _ _ _ _ _ hj hk
  io i b o n sz hq := by
    have hi : cls i ≠ d := hio _ _ hq
    obtain ⟨⟨es, h1, h2⟩, h3, h4, h5, c0, c, e, h6, h7, h8, h9⟩ := hg.io i b o n sz hq
    have hb := (hg.own _ _ h5).1
    exact ⟨⟨es, by rw [putFs_other (fun p hp e => hi (by rw [← e]; exact hfs p hp))]; exact h1, h2⟩, by rw [(h.blk i hi).1]; exact h3, by rw [(h.blk i hi).2]; exact h4, by rw [h.κ b hb]; exact h5,
      c0, c, e, h6, by rw [h.heap b hb]; exact h7, h8, h9⟩

end grow

/-! ### What a callee hands back -/

def AdOk (E : Env) (w' : World) (ok : Nat → Prop) (d : Nat) (bs : List Nat) (c : Nat) (N : List Nat) (fs : List (Nat × File)) (c' : Nat) (C : Mp → St → Prop) : Prop :=
  ∃ bl : List (Option Nat), c' = c + bl.length ∧ N = bl.filterMap id ∧ fs.map Prod.fst = (List.range' c bl.length).map (fun j => d + 4096 * j) ∧
    ∀ M' σ', (∀ j ob, bl[j]? = some ob → M'.off (d + 4096 * (c + j)) = 0 ∧ ∀ b, ob = some b → M'.blk (d + 4096 * (c + j)) = b ∧ M'.κ b = some (d + 4096 * (c + j))) →
      (∀ p ∈ fs, σ'.files p.1 = some p.2) → (∀ F, (∀ b ∈ F, ok b) → Good E M' w' bs F) → (∀ j, d + 4096 * j ∉ bs) → C M' σ' ∧ ∀ p ∈ fs, ClF E M' σ' w' p.1 p.2

theorem AdOk.nil {w' : World} {ok : Nat → Prop} {d : Nat} {bs : List Nat} {c : Nat} {C : Mp → St → Prop} (h : ∀ M' σ', (∀ F, (∀ b ∈ F, ok b) → Good E M' w' bs F) → C M' σ') : AdOk E w' ok d bs c [] [] c C :=
  ⟨[], rfl, rfl, rfl, fun M' σ' _ _ hG _ => ⟨h M' σ' hG, by simp⟩⟩

theorem AdOk.app {w' : World} {ok : Nat → Prop} {d : Nat} {bs : List Nat} {c c1 c2 : Nat} {N1 N2 : List Nat} {fs1 fs2 : List (Nat × File)} {C1 C2 : Mp → St → Prop}
    (h1 : AdOk E w' ok d bs c N1 fs1 c1 C1) (h2 : AdOk E w' ok d bs c1 N2 fs2 c2 C2) : AdOk E w' ok d bs c (N1 ++ N2) (fs1 ++ fs2) c2 (fun M σ => C1 M σ ∧ C2 M σ) := by
  obtain ⟨b1, e1, n1, r1, k1⟩ := h1
  obtain ⟨b2, e2, n2, r2, k2⟩ := h2
  subst e1
  refine ⟨b1 ++ b2, by simp; omega, by simp [n1, n2], ?_, fun M' σ' ha hf hG hd => ?_⟩
  · rw [List.map_append, r1, r2, List.length_append, ← List.map_append]
    congr 1
    rw [show b1.length + b2.length = b1.length + b2.length from rfl, List.range'_append_1]
  · obtain ⟨q1, q2⟩ := k1 M' σ' (fun j ob hj => ha j ob (by rw [List.getElem?_append_left (List.getElem?_eq_some_iff.1 hj).1]; exact hj)) (fun p hp => hf p (by simp [hp])) hG hd
    obtain ⟨q3, q4⟩ := k2 M' σ' (fun j ob hj => by
      have := ha (b1.length + j) ob (by rw [List.getElem?_append_right (by omega), show b1.length + j - b1.length = j by omega]; exact hj)
      rwa [← Nat.add_assoc] at this) (fun p hp => hf p (by simp [hp])) hG hd
    exact ⟨⟨q1, q3⟩, fun p hp => (List.mem_append.1 hp).elim (q2 p) (q4 p)⟩

theorem AdOk.imp {w' : World} {ok : Nat → Prop} {d : Nat} {bs : List Nat} {c c1 : Nat} {N1 : List Nat} {fs1 : List (Nat × File)} {C1 C2 : Mp → St → Prop}
    (h1 : AdOk E w' ok d bs c N1 fs1 c1 C1) (h : ∀ M σ, C1 M σ → C2 M σ) : AdOk E w' ok d bs c N1 fs1 c1 C2 := by
  obtain ⟨b1, e1, n1, r1, k1⟩ := h1
  exact ⟨b1, e1, n1, r1, fun M' σ' ha hf hG hd => let ⟨q1, q2⟩ := k1 M' σ' ha hf hG hd; ⟨h _ _ q1, q2⟩⟩

theorem adopt1_ok {w' : World} {ok : Nat → Prop} {d : Nat} {bs : List Nat} {c : Nat} {r : RS} {v : Value} {N : List Nat} (h : RCl1 w' ok r v N) :
    AdOk E w' ok d bs c N (adopt1 d bs c r).2.1 (adopt1 d bs c r).2.2 (fun M σ => Cl1 E M σ w' (adopt1 d bs c r).1 v) := by
  cases r with
  | pv r =>
    obtain ⟨rfl, F, h1, h2⟩ := h
    exact AdOk.nil (fun M' σ' hG => mkpv_cl (M := M') (σ := σ') (w := w') (r := r) (bs := bs) ⟨F, h1, hG F h2⟩)
  | row es sz u =>
    have gen : ∀ u', (u' = .free ∧ u = .free ∨ u' = .sh bs) → AdOk E w' ok d bs c N [(d + 4096 * c, .row es sz u' false)] (c + 1) (fun M σ => Cl1 E M σ w' (.own (d + 4096 * c) none) v) := by
      intro u' hu'
      have hrub : ∀ j, (∀ j, d + 4096 * j ∉ bs) → d + 4096 * j ∉ rubs u' := by
        intro j hd
        rcases hu' with ⟨rfl, _⟩ | rfl
        · simp [rubs]
        · exact hd j
      rcases h with ⟨b, cc, e, cap, F, rfl, rfl, hle, hcap, hb, hsz, hr, hfree, hok⟩ | ⟨rfl, rfl, a, rfl⟩
      · refine ⟨[some b], rfl, rfl, rfl, fun M' σ' ha hf hG hd => ?_⟩
        obtain ⟨k1, k2⟩ := ha 0 (some b) rfl
        obtain ⟨k2, k3⟩ := k2 b rfl
        simp only [Nat.add_zero] at k1 k2 k3
        have hf' := hf _ (List.mem_singleton.2 rfl)
        refine ⟨fun es' sz' u'' io' hf2 => ?_, fun p hp => ?_⟩
        · rw [hf'] at hf2; cases hf2
          exact ⟨_, cap, rfl, hle, by omega, by omega, fun _ => ⟨by rw [k2, k1]; simp, by rw [k2]; exact k3, cc, e, by rw [k2]; exact hb, by rw [k1]; simpa using hsz⟩⟩
        · simp only [List.mem_singleton] at hp; subst hp
          refine ⟨fun _ => k1, hrub c hd, fun _ => ⟨by rw [k2]; exact k3, cc, e, by rw [k2]; exact hb⟩, F, by rw [k1, k2]; exact hr, ?_⟩
          rcases hu' with ⟨rfl, hu⟩ | rfl
          · exact hfree hu
          · exact hG F hok
      · refine ⟨[none], rfl, rfl, rfl, fun M' σ' ha hf hG hd => ?_⟩
        obtain ⟨k1, _⟩ := ha 0 none rfl
        simp only [Nat.add_zero] at k1
        have hf' := hf _ (List.mem_singleton.2 rfl)
        refine ⟨fun es' sz' u'' io' hf2 => ?_, fun p hp => ?_⟩
        · rw [hf'] at hf2; cases hf2
          exact ⟨a, 0, rfl, by simp, by simp, by simp, fun h => absurd rfl h⟩
        · simp only [List.mem_singleton] at hp; subst hp
          refine ⟨fun _ => k1, hrub c hd, fun h => absurd rfl h, [], .nil _ _ _, ?_⟩
          rcases hu' with ⟨rfl, hu⟩ | rfl
          · exact rfl
          · intro b hb; simp at hb
    cases u with
    | free => exact gen .free (.inl ⟨rfl, rfl⟩)
    | sh b0 => exact gen (.sh bs) (.inr rfl)
  | ag ls => exact h.elim
  | tup ls => exact h.elim
  | vw p o l => exact h.elim

theorem adoptL_ok {w' : World} {ok : Nat → Prop} {d : Nat} {bs : List Nat} {f : Nat → RS → Slot × List (Nat × File) × Nat} {p : RS → Value → List Nat → Prop} {C : Mp → St → Slot → Value → Prop}
    (hf : ∀ c r v N, p r v N → AdOk E w' ok d bs c N (f c r).2.1 (f c r).2.2 (fun M σ => C M σ (f c r).1 v)) :
    ∀ {ls : List RS} {vs : List Value} {N : List Nat}, RAll p ls vs N → ∀ c, AdOk E w' ok d bs c N (adoptL f c ls).2.1 (adoptL f c ls).2.2 (fun M σ => All2 (C M σ) (adoptL f c ls).1 vs)
  | _, _, _, .nil, c => AdOk.nil (fun _ _ _ => .nil)
  | x :: _, _, _, .cons h t, c => by
    have h1 := hf c _ _ _ h
    have h2 := adoptL_ok hf t (f c x).2.2
    exact (h1.app h2).imp (fun M σ hh => .cons hh.1 hh.2)

theorem adopt2_ok {w' : World} {ok : Nat → Prop} {d : Nat} {bs : List Nat} {c : Nat} {r : RS} {v : Value} {N : List Nat} (h : RCl2 w' ok r v N) :
    AdOk E w' ok d bs c N (adopt2 d bs c r).2.1 (adopt2 d bs c r).2.2 (fun M σ => Cl2 E M σ w' (adopt2 d bs c r).1 v) := by
  cases r with
  | ag ls =>
    obtain ⟨cs, rfl, h⟩ := h
    have h1 := adoptL_ok (E := E) (d := d) (bs := bs) (f := adopt1 d bs) (p := RCl1 w' ok) (C := fun M σ => Cl1 E M σ w') (fun c r v N hh => adopt1_ok hh) h c
    exact h1.imp (fun M σ hh => ⟨cs, rfl, hh⟩)
  | pv r => exact (adopt1_ok (r := .pv r) h).imp (fun M σ hh => Cl2.of1 hh)
  | row es sz u => exact (adopt1_ok (r := .row es sz u) h).imp (fun M σ hh => Cl2.of1 hh)
  | tup ls => exact h.elim
  | vw p o l => exact h.elim

theorem adopt_ok {w' : World} {V : Nat → Nat → Nat → Value → Prop} {ok : Nat → Prop} {d : Nat} {bs : List Nat} {r : RS} {v : Value} {N : List Nat} (h : RClS w' V ok r v N) :
    ∃ c', AdOk E w' ok d bs 0 N (adopt d bs r).2 c' (fun M σ => ClS E M σ w' (adopt d bs r).1 v) := by
  cases r with
  | tup ls =>
    obtain ⟨cs, rfl, h⟩ := h
    have h1 := adoptL_ok (E := E) (d := d) (bs := bs) (f := adopt2 d bs) (p := RCl2 w' ok) (C := fun M σ => Cl2 E M σ w') (fun c r v N hh => adopt2_ok hh) h 0
    exact ⟨_, h1.imp (fun M σ hh => ⟨cs, rfl, hh⟩)⟩
  | pv r => exact ⟨_, (adopt2_ok (r := .pv r) h).imp (fun M σ hh => ClS.of2 hh)⟩
  | row es sz u => exact ⟨_, (adopt2_ok (r := .row es sz u) h).imp (fun M σ hh => ClS.of2 hh)⟩
  | ag ls => exact ⟨_, (adopt2_ok (r := .ag ls) h).imp (fun M σ hh => ClS.of2 hh)⟩
  | vw p o l =>
    obtain ⟨rfl, _⟩ := h
    exact ⟨_, AdOk.nil (fun M' σ' _ => trivial)⟩

end Go.VAI

namespace Go.VAI
variable {E : Env} {P : Program}

theorem Calls.mono {f : FuncId} {args : Array Value} {w : World} {R R' : Ending → World → Prop} (h : Calls P f args w R) (hi : ∀ e w', R e w' → R' e w') : Calls P f args w R' := by
  intro cs
  obtain ⟨e, w', fr, h1, h2⟩ := h cs
  exact ⟨e, w', fr, hi _ _ h1, h2⟩

section ops
variable {M : Mp} {σ : St} {a : Act} {w : World} {o : Oper} {K : St → Prop} {Q : Exit → Act → World → Prop}

theorem caps_ok (_ : G E M σ a w) {s : Slot} {v : Value} (hc : ClS E M σ w s v) {f : FuncId} {caps : List Slot} (h : capsOf s = some (f, caps)) : ∃ cs, v = .func (.func f) #[] ⟨cs⟩ ∧ All2 (Cl1 E M σ w) caps cs := by
  unfold capsOf at h
  split at h
  · rename_i f0 cs0 bs
    cases h
    obtain ⟨F, h1, h2⟩ := hc
    cases h1 with
    | fn h1 =>
      rename_i cs
      refine ⟨cs, rfl, ?_⟩
      have : ∀ (l : List PV) (vs : List Value) (F : List Nat), RepL w l vs F → Good E M w bs F → All2 (Cl1 E M σ w) (l.map (mkpv · bs)) vs := by
        intro l
        induction l with
        | nil => intro vs F h _; cases h; exact .nil
        | cons x l ih =>
          intro vs F h hG
          cases h with
          | cons h t => exact .cons (mkpv_cl ⟨_, h, hG.mono (fun b hb => by simp [hb])⟩) (ih _ _ t (hG.mono (fun b hb => by simp [hb])))
      exact this _ _ _ h1 h2
  · cases h; exact hc
  · cases h

theorem args_cl (hg : G E M σ a w) : ∀ l : List Operand, All2 (ClS E M σ w) (l.map (eval σ)) (l.map a.eval)
  | [] => .nil
  | x :: l => .cons (eval_cl hg x) (args_cl hg l)

theorem feet_ok (hg : G E M σ a w) : ∀ {ss : List Slot} {vs : List Value} {ps : List PV}, optAll (toPV (stdA P) σ) ss = some ps → All2 (ClS E M σ w) ss vs →
    ps.length = ss.length ∧ ∃ Fs : List (List Nat), Fs.length = ss.length ∧ ∀ (k : Nat) (s : Slot) (r : PV) (v : Value) (F : List Nat), ss[k]? = some s → ps[k]? = some r → vs[k]? = some v → Fs[k]? = some F → toPV (stdA P) σ s = some r ∧ Rep w r v F ∧ Good E M w (refsOf σ s) F
  | [], _, ps, h, _ => by simp [optAll] at h; subst h; exact ⟨rfl, [], rfl, by simp⟩
  | s :: ss, _, ps, h, .cons hc t => by
    simp only [optAll] at h
    split at h
    · rename_i y hy
      split at h
      · rename_i ys hys
        cases h
        obtain ⟨l1, Fs, h1, h2⟩ := feet_ok hg hys t
        obtain ⟨F, f1, f2⟩ := toPV_rep hg hy hc
        refine ⟨by simp [l1], F :: Fs, by simp [h1], fun k => ?_⟩
        cases k with
        | zero => intro s' r v F' e1 e2 e3 e4; simp at e1 e2 e3 e4; subst e1; subst e2; subst e3; subst e4; exact ⟨hy, f1, f2⟩
        | succ k => intro s' r v F' e1 e2 e3 e4; exact h2 k s' r v F' (by simpa using e1) (by simpa using e2) (by simpa using e3) (by simpa using e4)
      · cases h
    · cases h

/-- The row that is lent. -/
structure LendOk (σ : St) (args : List Slot) (sz p id : Nat) (sub : Option (Nat × Nat)) (es : List PV) (io : Bool) : Prop where
  arg : args[p]? = some (.own id sub)
  file : σ.files id = some (.row es sz .free io)
  small : p < ioMax ∧ p < 4096
  other : ∀ k s, k ≠ p → args[k]? = some s → id ∉ refsOf σ s

theorem lendOk_some {σ : St} {args : List Slot} {sz p : Nat} (h : lendOk σ args sz [p] = true) : ∃ id sub es io, LendOk σ args sz p id sub es io := by
  simp only [lendOk] at h
  split at h
  · rename_i id sub ha
    split at h
    · rename_i es sz' io hf
      simp only [Bool.and_eq_true, beq_iff_eq] at h
      obtain ⟨⟨⟨rfl, hp0⟩, hp⟩, hall⟩ := h
      rw [Nat.blt_eq] at hp0 hp
      refine ⟨id, sub, es, io, ha, hf, ⟨hp0, hp⟩, fun k s hk hs => ?_⟩
      have := List.all_eq_true.1 hall (s, k) (by
        rw [List.mem_zipIdx_iff_getElem?]; exact hs)
      simp only [Bool.or_eq_true, beq_iff_eq, Bool.not_eq_true'] at this
      rcases this with h | h
      · exact absurd h hk
      · simpa using h
    · cases h
  · cases h

theorem fresh_kill {σ : St} {id j : Nat} {hdr : Bool} (h : Fresh σ id) {f : File} (hj : j ≠ id) (hf : nrF id f) : Fresh (putF (kill hdr σ j) j f) id := by
  have k1 : ∀ s, nr1 id s → nr1 id (kill1 hdr j s) := by
    intro s hs
    cases s with
    | pv r bs => simp only [kill1]; split <;> first | exact trivial | exact hs
    | own i sub => simp only [kill1]; split <;> first | exact trivial | exact hs
    | rref i a b => simp only [kill1]; split <;> first | exact trivial | exact hs
    | _ => exact hs
  have l1 : ∀ s, (∀ ls, s ≠ .ag ls) → (∀ f ls, s ≠ .clo f ls) → (∀ ls, s ≠ .tup ls) → nr1 id s → nrS id (kill1 hdr j s) := by
    intro s h1 h2 h3 hs
    have := k1 s hs
    cases s with
    | pv r bs => simp only [kill1] at this ⊢; split <;> first | exact trivial | (rename_i hh; rw [if_neg hh] at this; exact this)
    | own i sub => simp only [kill1] at this ⊢; split <;> first | exact trivial | (rename_i hh; rw [if_neg hh] at this; exact this)
    | rref i a b => simp only [kill1] at this ⊢; split <;> first | exact trivial | (rename_i hh; rw [if_neg hh] at this; exact this)
    | ag ls => exact absurd rfl (h1 ls)
    | clo f ls => exact absurd rfl (h2 f ls)
    | tup ls => exact absurd rfl (h3 ls)
    | ref i o => exact this
    | undef => exact trivial
    | dead => exact trivial
  have k2 : ∀ s, (∀ ls, s ≠ .tup ls) → nr2 id s → nr2 id (map2 (kill1 hdr j) s) := by
    intro s ht hs
    cases s with
    | ag ls => intro t ht; obtain ⟨u, hu, rfl⟩ := List.mem_map.1 ht; exact k1 u (hs u hu)
    | clo f ls => intro t ht; obtain ⟨u, hu, rfl⟩ := List.mem_map.1 ht; exact k1 u (hs u hu)
    | tup ls => exact absurd rfl (ht ls)
    | pv r bs => exact nr2_of_S (l1 (.pv r bs) (by simp) (by simp) (by simp) hs)
    | own i sub => exact nr2_of_S (l1 (.own i sub) (by simp) (by simp) (by simp) hs)
    | ref i o => exact nr2_of_S (l1 (.ref i o) (by simp) (by simp) (by simp) hs)
    | rref i u o => exact nr2_of_S (l1 (.rref i u o) (by simp) (by simp) (by simp) hs)
    | undef => exact nr2_of_S (l1 .undef (by simp) (by simp) (by simp) hs)
    | dead => exact nr2_of_S (l1 .dead (by simp) (by simp) (by simp) hs)
  refine ⟨fun k => ?_, fun i g hg => ?_, ?_⟩
  · have hs := h.slots k
    show nrS id (mapS (kill1 hdr j) (σ.slots k))
    cases hk : σ.slots k with
    | tup ls =>
      rw [hk] at hs
      intro t ht
      obtain ⟨u, hu, rfl⟩ := List.mem_map.1 ht
      have := hs u hu
      cases u with
      | tup ls' => exact trivial
      | ag ls' => exact k2 (.ag ls') (by simp) this
      | clo f ls' => exact k2 (.clo f ls') (by simp) this
      | pv r bs => exact k2 (.pv r bs) (by simp) this
      | own i sub => exact k2 (.own i sub) (by simp) this
      | ref i o => exact k2 (.ref i o) (by simp) this
      | rref i u o => exact k2 (.rref i u o) (by simp) this
      | undef => exact k2 .undef (by simp) this
      | dead => exact k2 .dead (by simp) this
    | ag ls => rw [hk] at hs; exact k2 (.ag ls) (by simp) hs
    | clo f ls => rw [hk] at hs; exact k2 (.clo f ls) (by simp) hs
    | pv r bs => rw [hk] at hs; exact l1 (.pv r bs) (by simp) (by simp) (by simp) hs
    | own i sub => rw [hk] at hs; exact l1 (.own i sub) (by simp) (by simp) (by simp) hs
    | ref i o => rw [hk] at hs; exact l1 (.ref i o) (by simp) (by simp) (by simp) hs
    | rref i u o => rw [hk] at hs; exact l1 (.rref i u o) (by simp) (by simp) (by simp) hs
    | undef => rw [hk] at hs; exact l1 .undef (by simp) (by simp) (by simp) hs
    | dead => rw [hk] at hs; exact l1 .dead (by simp) (by simp) (by simp) hs
  · rcases putF_files.1 hg with ⟨rfl, rfl⟩ | ⟨hne, hg⟩
    · exact hf
    · obtain ⟨f0, h1, h2⟩ := kill_files.1 hg
      rw [if_neg hne] at h2
      have := h.files _ _ h1
      cases f0 with
      | cell ls =>
        simp only [killF] at h2
        cases h2
        intro t ht
        obtain ⟨u, hu, rfl⟩ := List.mem_map.1 ht
        have hu' := this u hu
        cases u with
        | ag ls' => exact trivial
        | clo f ls' => exact trivial
        | tup ls' => exact trivial
        | pv r bs => exact (k1 (.pv r bs) hu')
        | own i sub => exact (k1 (.own i sub) hu')
        | ref i o => exact (k1 (.ref i o) hu')
        | rref i u o => exact (k1 (.rref i u o) hu')
        | undef => exact (k1 .undef hu')
        | dead => exact (k1 .dead hu')
      | row es sz u io =>
        cases u with
        | free => simp only [killF] at h2; cases h2; exact this
        | sh bs => simp only [killF] at h2; split at h2 <;> cases h2; exact this
  · cases hq : (putF (kill hdr σ j) j f).files id with
    | none => rfl
    | some g =>
      rcases putF_files.1 hq with ⟨e, _⟩ | ⟨_, hg⟩
      · exact absurd e.symm hj
      · obtain ⟨f0, h1, _⟩ := kill_files.1 hg
        rw [h.none] at h1; cases h1


/-- The row that was lent comes back. -/
theorem io_step (hg : G E M σ a w) {id : Nat} {es : List PV} {sz : Nat} {io : Bool} (hf : σ.files id = some (.row es sz .free io)) {p l : Nat} {v : Value} (hh : Hdr M w id es.length sz p l v) {es' : List PV} {w' : World}
    (hb : Back w w' sz (.sl ((es.drop p).take l)) v (.sl es')) (hfr : ∀ b, b < w.heap.size → blockOf v ≠ some b → w'.heap[b]? = w.heap[b]?) :
    es'.length = l ∧ ∃ w1, G E M (putF (kill false σ id) id (.row (es.take p ++ es' ++ es.drop (p + l)) sz .free io)) a w1 ∧ w1.heap.size = w.heap.size ∧ (∀ b, b < w.heap.size → w'.heap[b]? = w1.heap[b]?) ∧ w1.os = w.os ∧ (w1.tape = w.tape ∧ w1.drawn ≤ w.drawn) ∧ w1.output = w.output := by
  obtain ⟨a0, cap, rfl, h1, h2, h3, h4⟩ := hh
  obtain ⟨k0, k1, k2, F, k3, k4⟩ := hg.files _ _ hf
  simp only [GoodU] at k4
  subst k4
  obtain ⟨c1, c2, e1, e2, hlen, hbk⟩ := hb
  cases e1; cases e2
  have hl : ((es.drop p).take l).length = l := by simp; clear h4; omega
  have hl' : es'.length = l := by rw [← hl]; exact hlen
  refine ⟨hl', ?_⟩
  have hnlen : (es.take p ++ es' ++ es.drop (p + l)).length = es.length := by simp; clear h4; omega
  by_cases hcap : cap = 0
  · have hl0 : l = 0 := by clear h4; omega
    subst hl0
    have he' : es' = [] := List.eq_nil_of_length_eq_zero hl'
    subst he'
    have hes : es.take p ++ [] ++ es.drop (p + 0) = es := by simp
    rw [hes]
    have ht1 : Turn E id M M w w := ⟨fun _ _ _ => rfl, Nat.le_refl _, fun _ _ _ => rfl, fun b j h h' => by rw [h] at h'; cases h'; exact ⟨rfl, (hg.own _ _ h).2⟩, fun b j hb h => by have := (hg.own _ _ h).1; omega, fun _ _ => ⟨rfl, rfl⟩, rfl, TapeLe.rfl', rfl⟩
    have hg2 := hg.turn (hdr := false) ht1 hf (f' := .row es sz .free io) (fun _ => ⟨fun ls hh => (by cases hh), fun es' sz' u' io' hh => by cases hh; exact ⟨rfl, rfl, es, _, rfl, rfl, fun _ _ _ h => h⟩⟩) (fun h => by cases h)
      ⟨k0, k1, k2, [], k3, rfl⟩ (fun b hk hb => hg.lent b id hb hk) (fun b hk hb => let ⟨q, hq⟩ := hg.lent b id hb hk; ⟨id, q, hq⟩) (fun _ _ _ _ e hk => by first | (cases e; done) | (cases e; exact hg.iob _ _ _ _ _ hf hk)) (fun b oo n sz' hq => by
        obtain ⟨⟨es', hf', hn⟩, rest⟩ := hg.io _ _ _ _ _ hq
        rw [hf] at hf'; cases hf'
        exact ⟨⟨es, rfl, hn⟩, rest⟩)
    refine ⟨w, hg2, rfl, fun b hb => hfr b hb ?_, rfl, ⟨rfl, Nat.le_refl _⟩, rfl⟩
    cases a0 <;> simp [blockOf, hcap]
  · obtain ⟨rfl, g1, c0, e0, g2, g3⟩ := h4 hcap
    obtain ⟨b1, c, c', e, b2, b3, b4, b5⟩ := hbk _ _ _ _ rfl hcap
    rw [g2] at b2; cases b2
    have hw1 := setRow_heap w (M.blk id) c0 c' _ _ g2
    have hcell : ∀ j, (w.setRow (M.blk id) c').cell? ⟨M.blk id, j, none⟩ = c'[j]? := fun j => cell_of hw1
    have hcell0 : ∀ j, w.cell? ⟨M.blk id, j, none⟩ = c0[j]? := fun j => cell_of g2
    rw [hl] at b5
    have ht1 : Turn E id M M w (w.setRow (M.blk id) c') := {
      heap := fun b hb hne => setRow_other w _ _ _ (fun e => hne (by rw [e]; exact g1))
      size := by rw [setRow_size]; exact Nat.le_refl _
      κ := fun _ _ _ => rfl
      κo := fun b j h h' => by rw [h] at h'; cases h'; exact ⟨rfl, (hg.own _ _ h).2⟩
      κn := fun b j hb h => by have := (hg.own _ _ h).1; omega
      blk := fun _ _ => ⟨rfl, rfl⟩
      os := rfl
      tape := TapeLe.rfl'
      out := rfl }
    have e1 : (p + l) * sz = p * sz + l * sz := Nat.add_mul _ _ _
    obtain ⟨F1, f1, f2⟩ := repRow_prefix (n := p) k3 (w' := w.setRow (M.blk id) c') (fun j hj => by rw [hcell, hcell0]; exact b5 j (.inl (by omega))) (by simp)
    have f3 : RepRow (w.setRow (M.blk id) c') (M.blk id) sz (M.off id + p * sz) es' [] := b1.mono (by rw [hw1, b3]) (by simp)
    obtain ⟨F2, f4, f5⟩ := f1.app (by
      have : (es.take p).length = p := by simp; omega
      rw [this]; exact f3)
    obtain ⟨F3, f6, f7⟩ := k3.drop (p + l) (by omega)
    have f8 := f6.cells (w' := w.setRow (M.blk id) c') (fun j j1 j2 => by rw [hcell, hcell0]; exact b5 j (.inr (by omega))) (fun c hc => by have := f7 c hc; simp at this)
    obtain ⟨F4, f9, f10⟩ := f4.app (by
      have : (es.take p ++ es').length = p + l := by simp; omega
      rw [this]; exact f8)
    have hF4 : F4 = [] := by
      cases F4 with
      | nil => rfl
      | cons x F4 =>
        exfalso
        rcases f10 x (by simp) with h | h
        · rcases f5 x h with h | h
          · have := f2 x h; simp at this
          · simp at h
        · have := f7 x h; simp at this
    subst hF4
    have hsame : false = false → SameHdr M M w (w.setRow (M.blk id) c') id (.row es sz .free io) (.row (es.take p ++ es' ++ es.drop (p + l)) sz .free io) := fun _ =>
      ⟨fun ls' hh => (by cases hh), fun es2 sz' u' io' hh => by
        cases hh
        refine ⟨rfl, rfl, es, _, rfl, hnlen.symm, fun oo l' v hh => ?_⟩
        rw [hnlen] at hh ⊢
        obtain ⟨aa, cap', e1, e2, e3, e4, e5⟩ := hh
        refine ⟨aa, cap', e1, e2, e3, e4, fun h0 => ?_⟩
        obtain ⟨q1, q2, c1', e', q3, q4⟩ := e5 h0
        rw [g2] at q3; cases q3
        exact ⟨q1, q2, c', _, hw1, by rw [b4]; exact q4⟩⟩
    have hg2 := hg.turn (hdr := false) ht1 hf hsame (fun h => by cases h)
      ⟨k0, k1, fun _ => ⟨g1, c', e0, hw1⟩, [], f9, rfl⟩
      (fun b hk hb => hg.lent b id hb hk) (fun b hk hb => let ⟨q, hq⟩ := hg.lent b id hb hk; ⟨id, q, hq⟩) (fun _ _ _ _ e hk => by first | (cases e; done) | (cases e; exact hg.iob _ _ _ _ _ hf hk)) (fun b oo n sz' hqq => by
        obtain ⟨⟨es2, hf', hn⟩, i1, i2, i3, c00, ci, ei, i4, i5, i6, i7⟩ := hg.io _ _ _ _ _ hqq
        rw [hf] at hf'
        cases hf'
        refine ⟨⟨_, rfl, by rw [hnlen]; exact hn⟩, i1, i2, i3, c00, c', ei, i4, ?_, ?_, fun j hj => ?_⟩
        · rw [← i1, hw1]; rw [← i1, g2] at i5; cases i5; rfl
        · rw [← i1, g2] at i5; cases i5; omega
        · rw [← i1, g2] at i5; cases i5
          rw [← i7 j hj]
          have e2 : (p + l) * sz ≤ n * sz := Nat.mul_le_mul_right _ (by omega)
          exact b5 j (by omega))
    refine ⟨_, hg2, setRow_size _ _ _, fun b hb => ?_, rfl, ⟨rfl, Nat.le_refl _⟩, rfl⟩
    by_cases hbb : b = M.blk id
    · subst hbb; rw [b3, hw1]
    · rw [setRow_other w _ _ _ hbb]
      exact hfr b hb (by simp only [blockOf, if_neg hcap]; intro e; cases e; exact hbb rfl)

end ops
end Go.VAI

namespace Go.VAI

theorem vw_split {w' : World} {V : Nat → Nat → Nat → Value → Prop} {ok : Nat → Prop} {rs : RS} {v : Value} {N : List Nat} (h : RClS w' V ok rs v N) :
    ∃ r0 v0, RClS w' V ok r0 v0 N ∧ ((r0 = rs ∧ v0 = v ∧ ∀ p o l, rs ≠ .vw p o l) ∨ ∃ p o l, rs = .vw p o l ∧ r0 = .tup [] ∧ V p o l v) := by
  cases rs with
  | vw p o l =>
    obtain ⟨rfl, hV⟩ := h
    exact ⟨.tup [], .tuple ⟨[]⟩, ⟨[], rfl, .nil⟩, .inr ⟨p, o, l, rfl, rfl, hV⟩⟩
  | pv r => exact ⟨_, v, h, .inl ⟨rfl, rfl, by intro p o l h; cases h⟩⟩
  | row es sz u => exact ⟨_, v, h, .inl ⟨rfl, rfl, by intro p o l h; cases h⟩⟩
  | ag ls => exact ⟨_, v, h, .inl ⟨rfl, rfl, by intro p o l h; cases h⟩⟩
  | tup ls => exact ⟨_, v, h, .inl ⟨rfl, rfl, by intro p o l h; cases h⟩⟩

theorem isVw_none {io : List Nat} {rs : RS} (h : ∀ p o l, rs ≠ .vw p o l) : isVw io rs = none := by
  cases io with
  | nil => rfl
  | cons x xs => cases rs <;> first | rfl | exact absurd rfl (h _ _ _)

theorem adopt1_noio (d : Nat) (bs : List Nat) (c : Nat) (r : RS) : ∀ p ∈ (adopt1 d bs c r).2.1, ∀ es sz u, p.2 ≠ .row es sz u true := by
  intro p hp es sz u e
  cases r with
  | row es0 sz0 u0 => cases u0 <;> simp [adopt1] at hp <;> subst hp <;> cases e
  | _ => simp [adopt1] at hp
theorem adoptL_noio {f : Nat → RS → Slot × List (Nat × File) × Nat} (hf : ∀ c r, ∀ p ∈ (f c r).2.1, ∀ es sz u, p.2 ≠ .row es sz u true) : ∀ (ls : List RS) (c : Nat), ∀ p ∈ (adoptL f c ls).2.1, ∀ es sz u, p.2 ≠ .row es sz u true
  | [], _, p, hp => by simp [adoptL] at hp
  | x :: xs, c, p, hp => by
    simp only [adoptL] at hp
    rcases List.mem_append.1 hp with hp | hp
    · exact hf c x p hp
    · exact adoptL_noio hf xs _ p hp
theorem adopt2_noio (d : Nat) (bs : List Nat) (c : Nat) (r : RS) : ∀ p ∈ (adopt2 d bs c r).2.1, ∀ es sz u, p.2 ≠ .row es sz u true := by
  cases r with
  | ag ls => exact adoptL_noio (fun c r => adopt1_noio d bs c r) ls c
  | pv r => exact adopt1_noio d bs c (.pv r)
  | row es sz u => exact adopt1_noio d bs c (.row es sz u)
  | tup ls => exact adopt1_noio d bs c (.tup ls)
  | vw p o l => exact adopt1_noio d bs c (.vw p o l)
theorem adopt_noio (d : Nat) (bs : List Nat) (r : RS) : ∀ p ∈ (adopt d bs r).2, ∀ es sz u, p.2 ≠ .row es sz u true := by
  cases r with
  | tup ls => exact adoptL_noio (fun c r => adopt2_noio d bs c r) ls 0
  | ag ls => exact adopt2_noio d bs 0 (.ag ls)
  | pv r => exact adopt2_noio d bs 0 (.pv r)
  | row es sz u => exact adopt2_noio d bs 0 (.row es sz u)
  | vw p o l => exact adopt2_noio d bs 0 (.vw p o l)

variable {E : Env} {P : Program}

theorem filterMap_idx {bl : List (Option Nat)} (hn : (bl.filterMap id).Nodup) : ∀ {j : Nat} {b : Nat}, bl[j]? = some (some b) → bl.findIdx? (· == some b) = some j := by
  induction bl with
  | nil => intro j b h; simp at h
  | cons x bl ih =>
    intro j b h
    rw [List.findIdx?_cons]
    cases j with
    | zero => simp at h; subst h; simp
    | succ j =>
      simp at h
      cases x with
      | none =>
        simp only [List.filterMap_cons, id] at hn
        have : (none == some b) = false := rfl
        rw [this, ih hn h]; rfl
      | some c =>
        simp only [List.filterMap_cons, id, List.nodup_cons] at hn
        have hne : c ≠ b := by
          intro e; subst e
          exact hn.1 (List.mem_filterMap.2 ⟨some c, List.mem_of_getElem? h, rfl⟩)
        have : (some c == some b) = false := by simpa using hne
        rw [this, ih hn.2 h]; rfl

section ops
variable {M : Mp} {σ : St} {a : Act} {w : World} {o : Oper} {K : St → Prop} {Q : Exit → Act → World → Prop}

theorem enter_run {c : Call} (hop : o.op = .call c) {fv : Operand} (hc : c.callee = .value fv) {f : FuncId} {cs : List Value} (hf : a.eval fv = .func (.func f) #[] ⟨cs⟩) (hcal : Callable P f) :
    (execOp a.eval o).run P w = .ok (.enter f ⟨c.args.toList.map a.eval ++ cs⟩) w := by
  obtain ⟨fn, h1, h2, h3⟩ := hcal
  have h2' : ¬ fn.body = none := by cases hb : fn.body <;> simp [hb] at h2 ⊢
  have h3' : ¬ fn.name = "runtime.NumGoroutine" := by simpa using h3
  have ha : c.args.map a.eval ++ ⟨cs⟩ = (⟨c.args.toList.map a.eval ++ cs⟩ : Array Value) := by apply Array.ext'; simp
  simp [execOp, hop, resolve, hc, hf, Deferred.ofValue, invoke, callFunc, h1, h2', h3', ha]

theorem hdr_block {M : Mp} {w : World} {id n sz o l : Nat} {v : Value} (h : Hdr M w id n sz o l v) {b : Nat} (hb : blockOf v = some b) : b = M.blk id ∧ M.κ b = some id := by
  obtain ⟨a0, cap, rfl, _, _, _, h4⟩ := h
  cases a0 with
  | none => simp [blockOf] at hb
  | some ad =>
    simp only [blockOf] at hb
    split at hb
    · cases hb
    · rename_i hc
      cases hb
      obtain ⟨e, k, _⟩ := h4 hc
      cases e
      exact ⟨rfl, k⟩

theorem op_call (hg : G E M σ a w) {d : Nat} (hdst : o.dst = some d) (hdn : d < σ.n) {c : Call} (hop : o.op = .call c) {fv : Operand} (hc : c.callee = .value fv)
    (h : mkF (stdA P) σ d (fun σ => match capsOf (eval σ fv) with
          | some (f, caps) => callS (stdA P) d f (c.args.toList.map (eval σ) ++ caps) σ K
          | none => False)) : o.wp P a w (Nx E K) Q := by
  obtain ⟨hlt, hio, hg1, hfr, hκ, hK⟩ := mkF_ok hg h
  have hcl := cls_lt hlt
  generalize hM1 : M.drop d = M1 at hg1 hκ
  generalize hσ1 : retire (stdA P) σ d = σ1 at hg1 hfr hK
  have hn1 : σ1.n = σ.n := by rw [← hσ1]; rfl
  split at hK
  · rename_i f caps hcaps
    obtain ⟨cs, hfv, hcs⟩ := caps_ok hg1 (eval_cl hg1 fv) hcaps
    have hcs' : All2 (ClS E M1 σ1 w) caps cs := by
      have := hcs.imp (g := fun s => s) (q := ClS E M1 σ1 w) (fun s v hh => ClS.of1 hh)
      rw [List.map_id'] at this; exact this
    have hargs := (args_cl hg1 c.args.toList).append hcs'
    generalize hss : c.args.toList.map (eval σ1) ++ caps = ss at hK hargs
    generalize hvs : c.args.toList.map a.eval ++ cs = vs at hargs
    unfold callS at hK
    split at hK
    · rename_i ps hps
      obtain ⟨l1, Fs, l2, hFs⟩ := feet_ok hg1 hps hargs
      have l3 := hargs.length
      split at hK
      · rename_i hlend
        obtain ⟨hcallable, rs, outs, hKK, hcalls⟩ := hK
        -- what is lent
        have hone : inout f = [] ∨ ∃ p id sub es io, inout f = [p] ∧ LendOk σ1 ss (ioSz f) p id sub es io := by
          match hq : inout f with
          | [] => exact .inl rfl
          | [p] => rw [hq] at hlend; obtain ⟨id, sub, es, io, hh⟩ := lendOk_some hlend; exact .inr ⟨p, id, sub, es, io, rfl, hh⟩
          | p :: q :: r => rw [hq] at hlend; simp [lendOk] at hlend
        have hget : ∀ {k : Nat} {r : PV}, ps[k]? = some r → ∃ s v F, ss[k]? = some s ∧ vs[k]? = some v ∧ Fs[k]? = some F := by
          intro k r hr
          have hk := (List.getElem?_eq_some_iff.1 hr).1
          exact ⟨ss[k]'(by omega), vs[k]'(by omega), Fs[k]'(by omega), List.getElem?_eq_getElem _, List.getElem?_eq_getElem _, List.getElem?_eq_getElem _⟩
        have hlentv : ∀ {p id sub es io}, LendOk σ1 ss (ioSz f) p id sub es io → ∃ u l p0, vs[p]? = some u ∧ Hdr M1 w id es.length (ioSz f) p0 l u ∧ ps[p]? = some (.sl ((es.drop p0).take l)) ∧ (sub = none ∧ p0 = 0 ∧ l = es.length ∨ sub = some (p0, l)) := by
          intro p id sub es io hh
          have hp := (List.getElem?_eq_some_iff.1 hh.arg).1
          have hu : vs[p]? = some (vs[p]'(by omega)) := List.getElem?_eq_getElem _
          have hr : ps[p]? = some (ps[p]'(by omega)) := List.getElem?_eq_getElem _
          have hF : Fs[p]? = some (Fs[p]'(by omega)) := List.getElem?_eq_getElem _
          have hcl1 := hargs.get hh.arg hu
          obtain ⟨t1, _, _⟩ := hFs p _ _ _ _ hh.arg hr hu hF
          simp only [toPV, pv2, pv1, content, hh.file] at t1
          cases sub with
          | none =>
            simp at t1
            refine ⟨_, es.length, 0, hu, hcl1 _ _ _ _ hh.file, ?_, .inl ⟨rfl, rfl, rfl⟩⟩
            rw [hr, ← t1, sub_full]
          | some q =>
            obtain ⟨p0, l⟩ := q
            simp at t1
            refine ⟨_, l, p0, hu, hcl1 _ _ _ _ hh.file, ?_, .inr rfl⟩
            rw [hr, ← t1]; rfl
        have hok : ArgsOk P f w ps vs Fs := by
          refine ⟨by omega, by omega, fun k r v F hr hv hF hk => ?_, fun k r v hr hv hk => ?_, fun j k u v b hj hk hne _ _ _ => ?_, fun k hk => ?_⟩
          · obtain ⟨s, _, _, hs, _, _⟩ := hget hr
            obtain ⟨t1, t2, t3⟩ := hFs k s r v F hs hr hv hF
            refine ⟨t2, fun b hb => (t3 b hb).1, fun j u b hj hu hb hbF => ?_⟩
            rcases hone with e | ⟨p, id, sub, es, io, e, hh⟩
            · rw [e] at hj; simp at hj
            · rw [e] at hj hk; simp only [List.mem_singleton] at hj hk
              subst hj
              obtain ⟨u', l, p0, hu', hdr, _⟩ := hlentv hh
              rw [hu] at hu'; cases hu'
              obtain ⟨_, hkb⟩ := hdr_block hdr hb
              have hno := hh.other k s hk hs
              obtain ⟨_, h2⟩ := t3 b hbF
              rcases h2 with ⟨h2, _⟩ | ⟨i, hi, h2⟩
              · rw [hkb] at h2; cases h2
              · rw [hkb] at h2; cases h2; exact hno hi
          · rcases hone with e | ⟨p, id, sub, es, io, e, hh⟩
            · rw [e] at hk; simp at hk
            · rw [e] at hk; simp only [List.mem_singleton] at hk
              subst hk
              obtain ⟨u', l, p0, hu', hdr, hps', _⟩ := hlentv hh
              rw [hv] at hu'; cases hu'
              rw [hr] at hps'; cases hps'
              obtain ⟨a0, cap, rfl, q1, q2, q3, q4⟩ := hdr
              have hl : ((es.drop p0).take l).length = l := by simp; clear q4; omega
              refine ⟨_, a0, cap, rfl, by rw [hl], by rw [hl]; exact q1, fun hcap => ?_⟩
              obtain ⟨rfl, g1, c0, e0, g2, g3⟩ := q4 hcap
              obtain ⟨k0, k1, k2, F, k3, k4⟩ := hg1.files _ _ hh.file
              simp only [GoodU] at k4; subst k4
              obtain ⟨G1, d1, d2⟩ := k3.drop p0 (by omega)
              obtain ⟨G2, d3, d4⟩ := d1.take l
              have : G2 = [] := by
                cases G2 with
                | nil => rfl
                | cons x G2 => have := d2 _ (d4 x (by simp)); simp at this
              subst this
              exact ⟨_, _, c0, e0, rfl, g2, by rw [Nat.add_assoc, ← Nat.add_mul]; exact g3, d3⟩
          · rcases hone with e | ⟨p, id, sub, es, io, e, hh⟩
            · rw [e] at hj; simp at hj
            · rw [e] at hj hk; simp only [List.mem_singleton] at hj hk; omega
          · rcases hone with e | ⟨p, id, sub, es, io, e, hh⟩
            · rw [e] at hk; simp at hk
            · rw [e] at hk; simp only [List.mem_singleton] at hk
              subst hk
              exact ⟨by rw [l1]; exact (List.getElem?_eq_some_iff.1 hh.arg).1, hh.small⟩
        have hcall := hcalls w vs Fs hok
        have hrun := enter_run (P := P) (w := w) hop hc hfv hcallable
        rw [hvs] at hrun
        unfold Oper.wp
        rw [hrun, Oper.upon_enter]
        refine Calls.mono hcall (fun e w' hh => ?_)
        obtain ⟨v, rfl, hpost⟩ := hh
        show Nx E K (a.put o.dst v) w'
        -- the rows that come back
        have hio_step : ∃ σ2 w1, (∀ K' : St → Prop, applyOuts (stdA P) ss (inout f) outs σ1 K' → K' σ2) ∧ G E M1 σ2 a w1 ∧ w1.heap.size = w.heap.size ∧ (∀ b, b < w.heap.size → w'.heap[b]? = w1.heap[b]?) ∧ w1.os = w.os ∧ (w1.tape = w.tape ∧ w1.drawn ≤ w.drawn) ∧ w1.output = w.output ∧
            (∀ i, cls i = d → Fresh σ2 i) ∧ σ2.n = σ1.n ∧ (∀ i es0 sz io, σ1.files i = some (.row es0 sz .free io) → ∃ es', σ2.files i = some (.row es' sz .free io) ∧ es'.length = es0.length) ∧ (∀ b, Feet f vs Fs b → b < w.heap.size ∧ ((M1.κ b = none ∧ (E.w0.heap.size ≤ b ∨ E.R b)) ∨ ∃ id ∈ ss.flatMap (refsOf σ1), M1.κ b = some id)) := by
          have hfeet1 : ∀ (b k : Nat) (F : List Nat), Fs[k]? = some F → b ∈ F → b < w.heap.size ∧ ((M1.κ b = none ∧ (E.w0.heap.size ≤ b ∨ E.R b)) ∨ ∃ id ∈ ss.flatMap (refsOf σ1), M1.κ b = some id) := by
            intro b k F hF hb
            have hk := (List.getElem?_eq_some_iff.1 hF).1
            obtain ⟨_, _, t3⟩ := hFs k (ss[k]'(by omega)) (ps[k]'(by omega)) (vs[k]'(by omega)) F (List.getElem?_eq_getElem _) (List.getElem?_eq_getElem _) (List.getElem?_eq_getElem _) hF
            obtain ⟨h1, h2⟩ := t3 b hb
            refine ⟨h1, h2.imp (fun h => h) (fun ⟨i, hi, h⟩ => ⟨i, ?_, h⟩)⟩
            exact List.mem_flatMap.2 ⟨_, List.getElem_mem _, hi⟩
          rcases hone with e | ⟨p, id, sub, es, io, e, hh⟩
          · have ho := hpost.outs.1
            rw [e] at ho
            have ho' : outs = [] := List.eq_nil_of_length_eq_zero (by simpa using ho)
            subst ho'
            refine ⟨σ1, w, fun K' hK' => by rw [e] at hK'; exact hK', hg1, rfl, fun b hb => hpost.frame b hb (fun k u hk => by rw [e] at hk; simp at hk), rfl, ⟨rfl, Nat.le_refl _⟩, rfl, hfr, rfl, fun i es0 sz io hf => ⟨es0, hf, rfl⟩, fun b hb => ?_⟩
            rcases hb with ⟨k, F, hF, _, hbF⟩ | ⟨k, v, hk, _⟩
            · exact hfeet1 b k F hF hbF
            · rw [e] at hk; simp at hk
          · have ho := hpost.outs.1
            rw [e] at ho
            obtain ⟨u, l, p0, hu, hdr, hpp, hsub⟩ := hlentv hh
            match outs, ho with
            | [out], _ =>
              have hb := hpost.outs.2 0 p out _ u (by rw [e]; rfl) rfl hpp hu
              have hback := hb
              obtain ⟨_, es', _, e2, _⟩ := hb
              subst e2
              obtain ⟨hl', w1, s1, s2, s3, s4, s5, s6⟩ := io_step hg1 hh.file hdr hback (fun b hb hne => hpost.frame b hb (fun k u' hk hu' => by
                rw [e] at hk; simp only [List.mem_singleton] at hk; subst hk
                rw [hu] at hu'; cases hu'; exact hne))
              have hidd : cls id ≠ d := fun e => (by have := (hfr id e).none; rw [hh.file] at this; cases this)
              refine ⟨_, w1, ?_, s1, s2, s3, s4, s5, s6, fun i hi => fresh_kill (hfr i hi) (fun e => hidd (by rw [e]; exact hi)) (by simp [nrF, rubs]), rfl, fun i es0 sz io0 hf0 => ?_, fun b hb => ?_⟩
              · intro K' hK'
                rw [e] at hK'
                simp only [applyOuts, hh.arg, hh.file] at hK'
                rcases hsub with ⟨rfl, rfl, rfl⟩ | rfl
                · simpa using hK'
                · simp only [stdA, hl'] at hK'; exact hK'
              · by_cases hi : i = id
                · subst hi
                  rw [hh.file] at hf0
                  cases hf0
                  obtain ⟨_, _, _, _, hle, _, _⟩ := hdr
                  exact ⟨_, putF_files.2 (.inl ⟨rfl, rfl⟩), by simp; omega⟩
                · exact ⟨es0, putF_files.2 (.inr ⟨hi, kill_files.2 ⟨_, hf0, by rw [if_neg hi]; rfl⟩⟩), rfl⟩
              · rcases hb with ⟨k, F, hF, _, hbF⟩ | ⟨k, v', hk, hv', hbl⟩
                · exact hfeet1 b k F hF hbF
                · rw [e] at hk; simp only [List.mem_singleton] at hk; subst hk
                  rw [hu] at hv'; cases hv'
                  obtain ⟨_, hkb⟩ := hdr_block hdr hbl
                  refine ⟨(hg1.own _ _ hkb).1, .inr ⟨id, List.mem_flatMap.2 ⟨_, List.mem_of_getElem? hh.arg, ?_⟩, hkb⟩⟩
                  simp [refsOf, refs2, refs1, hh.file]
        obtain ⟨σ2, w1, ha, hg2, z1, z2, z3, z4, z5, hfr2, hn2, hkeep, hfeet⟩ := hio_step
        have hKK := ha _ hKK
        simp only at hKK
        generalize hbs : ss.flatMap (refsOf σ1) = bs at hKK hfeet
        obtain ⟨N, hN1, hN2, hres⟩ := hpost.res
        obtain ⟨r0, v0, hres0, hcase⟩ := vw_split hres
        obtain ⟨c', bl, hc', hNbl, hfst, hcl2⟩ := adopt_ok (E := E) (d := d) (bs := bs) hres0
        have hnio := adopt_noio d bs r0
        generalize hsf : adopt d bs r0 = sf at hfst hcl2 hnio
        obtain ⟨s, fs⟩ := sf
        simp only at hfst hcl2 hnio
        have hids : ∀ p ∈ fs, ∃ j, j < bl.length ∧ p.1 = d + 4096 * j := by
          intro p hp
          have : p.1 ∈ fs.map Prod.fst := List.mem_map_of_mem hp
          rw [hfst] at this
          obtain ⟨j, hj, e⟩ := List.mem_map.1 this
          rw [List.mem_range'_1] at hj
          exact ⟨j, by omega, e.symm⟩
        have hcls : ∀ j, cls (d + 4096 * j) = d := fun j => by simp only [cls]; omega
        have hnod : (fs.map Prod.fst).Nodup := by
          rw [hfst]
          refine List.Pairwise.map (S := fun x y => x ≠ y) _ (fun x y hne e => hne ?_) (List.nodup_range' ..)
          have : d + 4096 * x = d + 4096 * y := e
          omega
        -- the map behind the call
        let M2 : Mp := { κ := fun b => if b < w.heap.size then M1.κ b else (bl.findIdx? (· == some b)).map (d + 4096 * ·),
                         blk := fun j => if cls j = d then (match bl[j / 4096]? with
                           | some (some b) => b
                           | _ => 0) else M1.blk j,
                         off := fun j => if cls j = d then 0 else M1.off j }
        have hdiv : ∀ j, (d + 4096 * j) / 4096 = j := fun j => by omega
        have hgrow : Grow d M1 M2 w1 w' := {
          heap := fun b hb => by rw [z1] at hb; exact z2 b hb
          size := by rw [z1]; exact hpost.size
          κ := fun b hb => by rw [z1] at hb; show (if b < w.heap.size then _ else _) = _; rw [if_pos hb]
          κn := fun b j hb hk => by
            rw [z1] at hb
            have hk' : (if b < w.heap.size then M1.κ b else (bl.findIdx? (· == some b)).map (d + 4096 * ·)) = some j := hk
            rw [if_neg (by omega)] at hk'
            cases hq : bl.findIdx? (· == some b) with
            | none => rw [hq] at hk'; cases hk'
            | some q =>
              rw [hq] at hk'; cases hk'
              have hbl : bl[q]? = some (some b) := by
                rw [List.findIdx?_eq_some_iff_getElem] at hq
                obtain ⟨hlt, h1, _⟩ := hq
                rw [List.getElem?_eq_getElem hlt]; simpa using h1
              refine ⟨hcls q, ?_, (hN2 b (by rw [hNbl]; exact List.mem_filterMap.2 ⟨_, List.mem_of_getElem? hbl, rfl⟩)).2⟩
              show b = (if cls (d + 4096 * q) = d then _ else _)
              rw [if_pos (hcls q), hdiv, hbl]
          blk := fun j hj => ⟨by show (if cls j = d then _ else _) = _; rw [if_neg hj], by show (if cls j = d then _ else _) = _; rw [if_neg hj]⟩
          os := by rw [z3]; exact hpost.os
          tape := ⟨by rw [z4.1]; exact hpost.tape.1, Nat.le_trans z4.2 hpost.tape.2⟩
          out := by rw [z5]; exact hpost.out }
        have hbsd : ∀ j, d + 4096 * j ∉ bs := by
          intro j hj
          rw [← hbs] at hj
          obtain ⟨s0, hs0, hj⟩ := List.mem_flatMap.1 hj
          have hf0 := hfr (d + 4096 * j) (hcls j)
          have hs0c : ∃ v0, ClS E M1 σ1 w s0 v0 := by
            obtain ⟨k, hk, e⟩ := List.getElem_of_mem hs0
            have hv0 : vs[k]? = some (vs[k]'(by omega)) := List.getElem?_eq_getElem _
            exact ⟨_, hargs.get (by rw [List.getElem?_eq_getElem hk, e]) hv0⟩
          have hnr : nrS (d + 4096 * j) s0 ∨ (nr1 (d + 4096 * j) s0 ∧ ∃ v0, Cl1 E M1 σ1 w s0 v0) := by
            rw [← hss] at hs0
            rcases List.mem_append.1 hs0 with hs0 | hs0
            · obtain ⟨x, _, rfl⟩ := List.mem_map.1 hs0
              exact .inl (fresh_eval hf0 x)
            · right
              refine ⟨?_, ?_⟩
              rotate_left
              · obtain ⟨k, hk, e⟩ := List.getElem_of_mem hs0
                have hlc := hcs.length
                have hv0 : cs[k]? = some (cs[k]'(by omega)) := List.getElem?_eq_getElem _
                exact ⟨_, hcs.get (by rw [List.getElem?_eq_getElem hk, e]) hv0⟩
              have hfe := fresh_eval hf0 fv
              unfold capsOf at hcaps
              split at hcaps
              · rename_i f1 cps bs0 he
                cases hcaps
                obtain ⟨x, _, rfl⟩ := List.mem_map.1 hs0
                rw [he] at hfe
                unfold mkpv
                split
                · show _ ∉ ([] : List Nat); simp
                · exact hfe
              · rename_i f1 cps he
                cases hcaps
                rw [he] at hfe
                exact hfe s0 hs0
              · cases hcaps
          have hr2 : d + 4096 * j ∉ refsOf σ1 s0 := by
            rcases hnr with hnr | ⟨hnr, v0, hv0⟩
            · obtain ⟨v0, hv0⟩ := hs0c
              cases s0 with
              | clo f0 ls =>
                simp only [refsOf, List.mem_flatMap, not_exists, not_and]
                intro x hx
                have := hnr x hx
                obtain ⟨cs0, _, hcs0⟩ := hv0
                obtain ⟨k, hk, e⟩ := List.getElem_of_mem hx
                have hlc := hcs0.length
                have hx1 := hcs0.get (show ls[k]? = some x by rw [List.getElem?_eq_getElem hk, e]) (List.getElem?_eq_getElem (show k < cs0.length by omega))
                cases x with
                | ag ls' => exact hx1.elim
                | clo f1 ls' => simp [refs2, refs1]
                | tup ls' => simp [refs2, refs1]
                | pv r b0 => exact fresh_refs2 hf0 (s := .pv r b0) this
                | own i sub => exact fresh_refs2 hf0 (s := .own i sub) this
                | ref i o => exact fresh_refs2 hf0 (s := .ref i o) this
                | rref i x o => exact fresh_refs2 hf0 (s := .rref i x o) this
                | undef => simp [refs2, refs1]
                | dead => simp [refs2, refs1]
              | ag ls => exact fresh_refs2 hf0 (s := .ag ls) hnr
              | pv r b0 => exact fresh_refs2 hf0 (s := .pv r b0) hnr
              | own i sub => exact fresh_refs2 hf0 (s := .own i sub) hnr
              | ref i o => exact fresh_refs2 hf0 (s := .ref i o) hnr
              | rref i x o => exact fresh_refs2 hf0 (s := .rref i x o) hnr
              | tup ls => simp [refsOf, refs2, refs1]
              | undef => simp [refsOf, refs2, refs1]
              | dead => simp [refsOf, refs2, refs1]
            · cases s0 with
              | pv r b0 => exact fresh_refs2 hf0 (s := .pv r b0) hnr
              | own i sub => exact fresh_refs2 hf0 (s := .own i sub) hnr
              | ref i o => exact fresh_refs2 hf0 (s := .ref i o) hnr
              | rref i x o => exact fresh_refs2 hf0 (s := .rref i x o) hnr
              | ag ls => exact hv0.elim
              | clo f0 ls => exact hv0.elim
              | tup ls => exact hv0.elim
              | undef => simp [refsOf, refs2, refs1]
              | dead => simp [refsOf, refs2, refs1]
          exact hr2 hj
        obtain ⟨hs, hfiles⟩ := hcl2 M2 (putFs σ2 fs) (fun j ob hj => by
          rw [Nat.zero_add]
          refine ⟨by show (if cls (d + 4096 * j) = d then _ else _) = _; rw [if_pos (hcls j)], fun b hb => ?_⟩
          subst hb
          refine ⟨by show (if cls (d + 4096 * j) = d then _ else _) = _; rw [if_pos (hcls j), hdiv, hj], ?_⟩
          have hbN : b ∈ N := by rw [hNbl]; exact List.mem_filterMap.2 ⟨_, List.mem_of_getElem? hj, rfl⟩
          show (if b < w.heap.size then _ else _) = _
          rw [if_neg (by have := (hN2 b hbN).1; omega), filterMap_idx (by rw [← hNbl]; exact hN1) hj]
          rfl) (fun p hp => putFs_in hnod p hp) (fun F hF b hb => by
            obtain ⟨f1, f2, f3⟩ := hF b hb
            refine ⟨f1, ?_⟩
            rcases Nat.lt_or_ge b w.heap.size with hlt' | hge
            · have hfe : Feet f vs Fs b := by
                rcases f3 with h | h
                · omega
                · exact h
              obtain ⟨_, h2⟩ := hfeet b hfe
              show ((if b < w.heap.size then _ else _) = none ∧ _) ∨ ∃ id ∈ bs, (if b < w.heap.size then _ else _) = some id
              rw [if_pos hlt']; exact h2
            · left
              refine ⟨?_, .inl (Nat.le_trans hg1.size hge)⟩
              show (if b < w.heap.size then _ else _) = none
              rw [if_neg (by omega)]
              cases hq : bl.findIdx? (· == some b) with
              | none => rfl
              | some q =>
                exfalso
                rw [List.findIdx?_eq_some_iff_getElem] at hq
                obtain ⟨hlt2, h1, _⟩ := hq
                apply f2
                rw [hNbl]
                exact List.mem_filterMap.2 ⟨bl[q], List.getElem_mem _, by simpa using h1⟩) hbsd
        have hg3 := hg2.grow hgrow hfr2 (fun i b hi => hκ i b hi) hio (fs := fs) (fun p hp => by obtain ⟨j, _, e⟩ := hids p hp; rw [e]; exact hcls j) (fun id es sz u hid hfile => by
          by_cases hin : ∃ p ∈ fs, p.1 = id
          · obtain ⟨p, hp, rfl⟩ := hin
            have := putFs_in (σ := σ2) hnod p hp
            rw [hfile] at this
            exact hnio _ hp _ _ _ (Option.some.inj this).symm
          · rw [putFs_other (fun p hp e => hin ⟨p, hp, e⟩)] at hfile
            rw [(hfr2 id hid).none] at hfile; cases hfile) (fun id g hid hfile => by
          by_cases hin : ∃ p ∈ fs, p.1 = id
          · obtain ⟨p, hp, rfl⟩ := hin
            have := putFs_in (σ := σ2) hnod p hp
            rw [hfile] at this; cases this
            exact hfiles p hp
          · rw [putFs_other (fun p hp e => hin ⟨p, hp, e⟩)] at hfile
            rw [(hfr2 id hid).none] at hfile; cases hfile)
        rw [hdst]
        rcases hcase with ⟨rfl, rfl, hne⟩ | ⟨p, oo, ll, rfl, rfl, hpin, u, es1, hu, hps1, hol, hview⟩
        · have hKK2 : K (put (putFs σ2 fs) d s) := by
            cases r0 with
            | vw p oo ll => exact absurd rfl (hne p oo ll)
            | pv r => rw [isVw_none (by intro p o l h; cases h)] at hKK; simp only [hsf] at hKK; exact hKK
            | row es sz u => rw [isVw_none (by intro p o l h; cases h)] at hKK; simp only [hsf] at hKK; exact hKK
            | ag ls => rw [isVw_none (by intro p o l h; cases h)] at hKK; simp only [hsf] at hKK; exact hKK
            | tup ls => rw [isVw_none (by intro p o l h; cases h)] at hKK; simp only [hsf] at hKK; exact hKK
          exact ⟨M2, _, hg3.put (by rw [putFs_slots.2, hn2, hn1]; exact hdn) hs, hKK2⟩
        · have hfs : fs = [] := by
            have : adopt d bs (.tup []) = (.tup [], []) := rfl
            rw [this] at hsf; cases hsf; rfl
          subst hfs
          have hvw : isVw (inout f) (.vw p oo ll) = some (p, oo, ll) := by
            cases hq : inout f with
            | nil => rw [hq] at hpin; simp at hpin
            | cons x xs => rfl
          rw [hvw] at hKK
          simp only at hKK
          split at hKK
          · rename_i id harg
            rcases hone with e | ⟨p', id', sub, es, io, e, hh⟩
            · rw [e] at hpin; simp at hpin
            · rw [e] at hpin; simp only [List.mem_singleton] at hpin
              subst hpin
              have harg' := hh.arg
              rw [harg] at harg'; cases harg'
              obtain ⟨u', l, p0, hu', hdr, hpp, hsub⟩ := hlentv hh
              rw [hu] at hu'; cases hu'
              rw [hps1] at hpp; cases hpp
              rcases hsub with ⟨_, rfl, rfl⟩ | hsub
              rotate_left
              · cases hsub
              obtain ⟨es2, hf2, hlen2⟩ := hkeep _ _ _ _ hh.file
              have hidd : cls id ≠ d := fun e => (by have := (hfr id e).none; rw [hh.file] at this; cases this)
              have hes1 : ((es.drop 0).take es.length).length = es.length := by simp
              rw [hes1] at hol hview
              have hcl : ClS E M2 (putFs σ2 []) w' (.own id (some (oo, ll))) v := by
                intro es3 sz3 u3 io3 hf3
                have hf3 : σ2.files id = some (.row es3 sz3 u3 io3) := hf3
                rw [hf2] at hf3; cases hf3
                rw [hlen2]
                obtain ⟨a1, cap1, rfl, q1, q2, q3⟩ := hview
                refine ⟨a1, cap1, rfl, q1, hol, q2, fun hc1 => ?_⟩
                obtain ⟨b, q, m, cap0, c, e0, rfl, hc0, rfl, hw, hsz⟩ := q3 hc1
                obtain ⟨a2, cap2, e2, _, _, _, h4⟩ := hdr
                cases e2
                obtain ⟨e3, hκ3, _, _, _, _⟩ := h4 hc0
                cases e3
                have hb := (hg1.own _ _ hκ3).1
                have eb : M2.blk id = M1.blk id := by show (if cls id = d then _ else _) = _; rw [if_neg hidd]
                have eo : M2.off id = M1.off id := by show (if cls id = d then _ else _) = _; rw [if_neg hidd]
                have ek : M2.κ (M1.blk id) = some id := by show (if M1.blk id < w.heap.size then _ else _) = _; rw [if_pos hb]; exact hκ3
                rw [eb, eo]
                rw [Nat.zero_mul, Nat.add_zero] at hsz
                refine ⟨by rw [Nat.zero_mul, Nat.add_zero], ek, c, e0, hw, ?_⟩
                simpa using hsz
              exact ⟨M2, _, hg3.put (by rw [putFs_slots.2, hn2, hn1]; exact hdn) hcl, hKK⟩
          · exact hKK.elim
      · exact hK.elim
    · exact hK.elim
  · exact hK.elim

end ops
end Go.VAI

namespace Go.VAI
variable {E : Env} {P : Program}

section ops
variable {M : Mp} {σ : St} {a : Act} {w : World} {o : Oper} {K : St → Prop} {Q : Exit → Act → World → Prop}

theorem array1 {α : Type} {a : Array α} {x : α} (h : a.toList = [x]) : a = #[x] := by cases a; simp at h; rw [h]

theorem leaves_zero {i : TI} {z : PV} {cs : List Value} (hz : ofLeaves i.ag i.zero = some z) (hzero : i.zero = cs.map PV.val) : leaves z = i.zero := by
  unfold ofLeaves at hz
  split at hz
  · cases hz; rfl
  · split at hz
    · rename_i x hx
      cases hz
      rw [hx]
      rw [hzero] at hx
      cases cs with
      | nil => simp at hx
      | cons v cs => simp at hx; rw [← hx.1]; rfl
    · cases hz

theorem zeros_get {z : Array Value} {n k : Nat} (h : k < n * z.size) : (Builtin.zeroCells z n).toList[k]? = z[k % z.size]? := by
  have hz : 0 < z.size := by
    rcases Nat.eq_zero_or_pos z.size with h0 | h0
    · rw [h0] at h; simp at h
    · exact h0
  have hm := Nat.mod_lt k hz
  simp [Builtin.zeroCells, h, hm]

theorem zeros_row {w : World} {b p l : Nat} {i : TI} {z : PV} {cs : List Value} {zv : Value} (hz : ofLeaves i.ag i.zero = some z) (hzero : i.zero = cs.map PV.val) (hcl : cs.length = i.size) (hone : ∀ v ∈ cs, v.oneCell' = true) (hcells : zv.cells = ⟨cs⟩)
    (h : ∀ j v, (Builtin.zeroCells zv.cells l).toList[j]? = some v → w.cell? ⟨b, p + j, none⟩ = some v) : RepRow w b i.size p (List.replicate l z) [] := by
  have hlz := leaves_zero hz hzero
  have hzs : zv.cells.size = i.size := by rw [hcells]; exact hcl
  obtain ⟨F, h1, h2⟩ := RepRow.of_get (w := w) (b := b) (sz := i.size) (FF := fun _ => False) (List.replicate l z) p (fun j x hx => by
    obtain ⟨hj, hx⟩ := List.getElem?_eq_some_iff.1 hx
    simp only [List.length_replicate] at hj
    rw [List.getElem_replicate] at hx
    subst hx
    refine ⟨by rw [hlz, hzero]; simpa using hcl, [], ?_, by simp⟩
    rw [hlz, hzero]
    refine (RepL.vals hone).cells _ hone (fun q v hq => ?_)
    have hq' : q < cs.length := (List.getElem?_eq_some_iff.1 hq).1
    have h3 : j * i.size + q < l * i.size := by
      calc j * i.size + q < j * i.size + i.size := by omega
        _ = (j + 1) * i.size := by rw [Nat.add_mul, Nat.one_mul]
        _ ≤ l * i.size := Nat.mul_le_mul_right _ hj
    rw [Nat.add_assoc]
    refine h _ _ ?_
    rw [zeros_get (by rw [hzs]; exact h3), hzs, Nat.mul_comm, Nat.mul_add_mod, Nat.mod_eq_of_lt (by omega), hcells]
    simpa using hq)
  have : F = [] := by
    cases F with
    | nil => rfl
    | cons x F => exact (h2 x (by simp)).elim
  subst this
  exact h1

theorem op_clear (hT : TTok P) (hg : G E M σ a w) (hdst : o.dst = none) {c : Call} (hop : o.op = .call c) (hc : c.callee = .builtin .clear) {x : Operand} (hx : c.args.toList = [x]) {t : Nat} (htt : c.argTypes.toList = [t])
    {e : Nat} {i : TI} (ht : elemOf t = some (e, i)) {id : Nat} {es : List PV} {io : Bool} (hf : σ.files id = some (.row es i.size .free io)) {p l : Nat} (hs : eval σ x = .own id (some (p, l))) {z : PV} (hz : ofLeaves i.ag i.zero = some z)
    (h : K (putF (kill false σ id) id (.row (es.take p ++ List.replicate l z ++ es.drop (p + l)) i.size .free io))) : o.wp P a w (Nx E K) Q := by
  have hh : Hdr M w id es.length i.size p l (a.eval x) := by
    have := eval_cl hg x
    rw [hs] at this
    exact this _ _ _ _ hf
  obtain ⟨a0, cap, hv, h1, h2, h3, h4⟩ := hh
  obtain ⟨k0, k1, k2, F, k3, k4⟩ := hg.files _ _ hf
  simp only [GoodU] at k4
  subst k4
  obtain ⟨hu, inf, zv, cs, hi, hsz, hby, hzv, hzero, hcl, hone, hcells⟩ := elem_types hT ht
  have hzs : zv.cells.size = i.size := by rw [hcells]; exact hcl
  have hlen : (es.take p ++ List.replicate l z ++ es.drop (p + l)).length = es.length := by simp; omega
  have hrun : ∀ w', (Builtin.clear_ #[t] o.type #[a.eval x]).run P w = .ok (.tuple #[]) w' → (execOp a.eval o).run P w = .ok (.value (.tuple #[])) w' := by
    intro w' hr
    simp [execOp, hop, resolve, hc, invoke, builtin, array1 hx, array1 htt, hr]
  by_cases hl0 : l = 0
  · subst hl0
    have hes : es.take p ++ List.replicate 0 z ++ es.drop (p + 0) = es := by simp
    rw [hes] at h
    have ht1 : Turn E id M M w w := ⟨fun _ _ _ => rfl, Nat.le_refl _, fun _ _ _ => rfl, fun b j h h' => by rw [h] at h'; cases h'; exact ⟨rfl, (hg.own _ _ h).2⟩, fun b j hb h => by have := (hg.own _ _ h).1; omega, fun _ _ => ⟨rfl, rfl⟩, rfl, TapeLe.rfl', rfl⟩
    have hg2 := hg.turn (hdr := false) ht1 hf (f' := .row es i.size .free io) (fun _ => ⟨fun ls hh => (by cases hh), fun es' sz' u' io' hh => by cases hh; exact ⟨rfl, rfl, es, _, rfl, rfl, fun _ _ _ h => h⟩⟩) (fun h => by cases h)
      ⟨k0, k1, k2, [], k3, rfl⟩ (fun b hk hb => hg.lent b id hb hk) (fun b hk hb => let ⟨q, hq⟩ := hg.lent b id hb hk; ⟨id, q, hq⟩) (fun _ _ _ _ e hk => by cases e; exact hg.iob _ _ _ _ _ hf hk) (fun b oo n sz' hq => by
        obtain ⟨⟨es', hf', hn⟩, rest⟩ := hg.io _ _ _ _ _ hq
        rw [hf] at hf'; cases hf'
        exact ⟨⟨es, rfl, hn⟩, rest⟩)
    refine wp_val (v := .tuple #[]) (w' := w) (hrun _ (by rw [hv]; cases a0 <;> simp [Builtin.clear_, run_underlying hu])) ?_
    rw [hdst]
    exact ⟨_, _, hg2, h⟩
  · have hcap : cap ≠ 0 := by clear h4; omega
    obtain ⟨rfl, g1, c0, e0, g2, g3⟩ := h4 hcap
    generalize hnews0 : (Builtin.zeroCells zv.cells l).toList = news
    have hnews : news.length = l * i.size := by rw [← hnews0]; simp [Builtin.zeroCells, hzs]
    have hnone : ∀ v ∈ news, v.oneCell' = true := by
      intro v hv
      obtain ⟨k, hk, e⟩ := List.getElem_of_mem hv
      have hk2 : news[k]? = some v := by rw [List.getElem?_eq_getElem hk, e]
      rw [← hnews0, zeros_get (by rw [hzs]; omega), hcells] at hk2
      exact hone v (List.mem_of_getElem? (by simpa using hk2))
    have hle2 : M.off id + p * i.size + news.length ≤ c0.size := by
      rw [hnews, Nat.add_assoc, ← Nat.add_mul]
      refine Nat.le_trans (Nat.add_le_add_left (Nat.mul_le_mul_right _ ?_) _) g3
      omega
    obtain ⟨c', s1, s2⟩ := setCells_heap (M.blk id) news (M.off id + p * i.size) w c0 e0 (0, 0) g2 hle2
    have hsz' : c'.size = c0.size := by rw [← Array.length_toList, s2, splice_length (by simpa using hle2)]; simp
    have ht1 := turn_set hg g1 g2 (M.off id + p * i.size) news
    have hcell : ∀ k, (w.setCells (M.blk id) (M.off id + p * i.size) news).cell? ⟨M.blk id, k, none⟩ = if k < M.off id + p * i.size then w.cell? ⟨M.blk id, k, none⟩ else if k < M.off id + p * i.size + news.length then news[k - (M.off id + p * i.size)]? else w.cell? ⟨M.blk id, k, none⟩ := by
      intro k
      rw [cell_of s1, cell_of g2, ← Array.getElem?_toList, s2, splice_get (by simpa using hle2)]
      simp
    obtain ⟨F1, f1, f2⟩ := repRow_prefix (n := p) k3 (w' := w.setCells (M.blk id) (M.off id + p * i.size) news) (fun j hj => by rw [hcell j, if_pos (by omega)]) (by simp)
    have f3 : RepRow (w.setCells (M.blk id) (M.off id + p * i.size) news) (M.blk id) i.size (M.off id + p * i.size) (List.replicate l z) [] := zeros_row hz hzero hcl hone hcells (fun j v hj => by
      rw [hnews0] at hj
      have := (List.getElem?_eq_some_iff.1 hj).1
      rw [hcell, if_neg (by omega), if_pos (by omega), show M.off id + p * i.size + j - (M.off id + p * i.size) = j by omega]; exact hj)
    obtain ⟨F2, f4, f5⟩ := f1.app (by
      have : (es.take p).length = p := by simp; omega
      rw [this]; exact f3)
    obtain ⟨F3, f6, f7⟩ := k3.drop (p + l) (by omega)
    have f8 := f6.cells (w' := w.setCells (M.blk id) (M.off id + p * i.size) news) (fun j j1 j2 => by
      have e1 : (p + l) * i.size = p * i.size + news.length := by rw [hnews, Nat.add_mul]
      rw [hcell j, if_neg (by omega), if_neg (by omega)]) (fun c hc => by have := f7 c hc; simp at this)
    obtain ⟨F4, f9, f10⟩ := f4.app (by
      have : (es.take p ++ List.replicate l z).length = p + l := by simp; omega
      rw [this]; exact f8)
    have hF4 : F4 = [] := by
      cases F4 with
      | nil => rfl
      | cons x F4 =>
        exfalso
        rcases f10 x (by simp) with h | h
        · rcases f5 x h with h | h
          · have := f2 x h; simp at this
          · simp at h
        · have := f7 x h; simp at this
    subst hF4
    have hsame : false = false → SameHdr M M w (w.setCells (M.blk id) (M.off id + p * i.size) news) id (.row es i.size .free io) (.row (es.take p ++ List.replicate l z ++ es.drop (p + l)) i.size .free io) := fun _ =>
      ⟨fun ls' hh => (by cases hh), fun es' sz' u' io' hh => by
        cases hh
        refine ⟨rfl, rfl, es, _, rfl, hlen.symm, fun oo l' v hh => ?_⟩
        rw [hlen] at hh ⊢
        obtain ⟨aa, cap', e1, e2, e3, e4, e5⟩ := hh
        refine ⟨aa, cap', e1, e2, e3, e4, fun h0 => ?_⟩
        obtain ⟨q1, q2, c1', e', q3, q4⟩ := e5 h0
        rw [g2] at q3; cases q3
        exact ⟨q1, q2, c', _, s1, by rw [hsz']; exact q4⟩⟩
    have hg2 := hg.turn (hdr := false) ht1 hf hsame (fun h => by cases h)
      ⟨k0, k1, fun _ => ⟨g1, c', e0, s1⟩, [], f9, rfl⟩
      (fun b hk hb => hg.lent b id hb hk) (fun b hk hb => let ⟨q, hq⟩ := hg.lent b id hb hk; ⟨id, q, hq⟩) (fun _ _ _ _ e hk => by cases e; exact hg.iob _ _ _ _ _ hf hk) (fun b oo n sz' hqq => by
        obtain ⟨⟨es', hf', hn⟩, i1, i2, i3, c00, ci, ei, i4, i5, i6, i7⟩ := hg.io _ _ _ _ _ hqq
        rw [hf] at hf'
        cases hf'
        refine ⟨⟨_, rfl, by rw [hlen]; exact hn⟩, i1, i2, i3, c00, c', ei, i4, ?_, ?_, fun j hj => ?_⟩
        · rw [← i1, s1]; rw [← i1, g2] at i5; cases i5; rfl
        · rw [← i1, g2] at i5; cases i5; omega
        · rw [← i1, g2] at i5; cases i5
          rw [← i7 j hj]
          have := hcell j
          rw [cell_of s1, cell_of g2] at this
          rw [this]
          have e1 : (p + l) * i.size = p * i.size + news.length := by rw [hnews, Nat.add_mul]
          have e2 : (p + l) * i.size ≤ n * i.size := Nat.mul_le_mul_right _ (by omega)
          rcases hj with hj | hj
          · rw [if_pos (by omega)]
          · rw [if_neg (by omega), if_neg (by omega)])
    have hst := run_storeCells_cells (P := P) (M.blk id) (M.off id + p * i.size) news 0 w (fun j hj => by rw [cell_of g2]; simp; omega) (fun j _ => frozen_of g2) hnone
    obtain ⟨l', rfl⟩ : ∃ l', l = l' + 1 := ⟨l - 1, by omega⟩
    refine wp_val (v := .tuple #[]) (w' := w.setCells (M.blk id) (M.off id + p * i.size) news) (hrun _ (by
      rw [hv]; simp [Builtin.clear_, run_underlying hu, zeroValue, typeInfo, hi, hzv, hnews0, hst])) ?_
    rw [hdst]
    exact ⟨_, _, hg2, h⟩

theorem nilPV_val (hg : G E M σ a w) {x : Operand} (h : isNilPV (eval σ x) = true) : a.eval x = .slice none 0 0 := by
  have hx := eval_cl hg x
  unfold isNilPV at h
  split at h
  · rename_i bs he
    rw [he] at hx
    obtain ⟨F, r1, _⟩ := hx
    generalize a.eval x = v at r1
    cases r1; rfl
  · cases h

theorem op_cap (hT : TTok P) (hg : G E M σ a w) (hd : o.dst.all (fun d => Nat.blt d σ.n) = true) {c : Call} (hop : o.op = .call c) (hc : c.callee = .builtin .cap) {x : Operand} (hx : c.args.toList = [x]) {t : Nat} (htt : c.argTypes.toList = [t])
    {e : Nat × TI} (ht : elemOf t = some e) (hn : isNilPV (eval σ x) = true) (h : K (putO σ o.dst (.pv (.val (.int .i64 0)) []))) : o.wp P a w (Nx E K) Q := by
  obtain ⟨hu, _⟩ := elem_types (e := e.1) (i := e.2) hT ht
  have hv := nilPV_val hg hn
  exact wp_val (v := .int .i64 0) (w' := w) (by simp [execOp, hop, resolve, hc, invoke, builtin, array1 hx, array1 htt, hv, Builtin.cap_, run_underlying hu, goInt]) (nx_put hg hd (val_cl rfl) h)

theorem int_type (hT : TTok P) {t : Nat} (h : isIntT t = true) : P.underlying t = some (.int .i64) := by
  unfold isIntT at h
  split at h
  · rename_i ht
    obtain ⟨d, hd, _, _, _, _, hk, _⟩ := (hT _ _ ht).und
    rw [hd, hk _ _ rfl rfl]
  · cases h

theorem wrap_i64' {n : Int} (h1 : -9223372036854775808 ≤ n) (h2 : n ≤ 9223372036854775807) : IntKind.i64.wrap n = n := by
  simp only [IntKind.wrap, IntKind.bits, IntKind.signed]; simp; omega

theorem run_append_zero {w : World} {t t' ty e : TypeId} {i : TypeInfo} {z : Value} (ht : P.underlying t = some (.slice e)) (ht' : P.underlying t' = some (.int .i64)) (hi : P.info? e = some i) (hz : i.zero = some z) {n : Int} (h0 : 0 < n) (hfit : n.toNat * (i.bytes + 1) ≤ 140737488355328) (hsz : n.toNat * i.size ≠ 0) :
    (Builtin.append_ #[t, t'] ty #[.slice none 0 0, .int .i64 n]).run P w = .ok (.slice (some ⟨w.heap.size, 0, none⟩) n.toNat (grownCap w n.toNat 0 e))
      (w.drew.alloc (.cells (Builtin.zeroCells z.cells n.toNat ++ Builtin.zeroCells z.cells (grownCap w n.toNat 0 e - n.toNat)) e)) := by
  rw [Nat.mul_add, Nat.mul_one] at hfit
  have hn : ((n.toNat : Nat) : Int) = n := by omega
  have hw : IntKind.i64.wrap n = n := wrap_i64' (by omega) (by omega)
  have h1 : ¬ (n < 0) := by omega
  have h2 : ¬ (281474976710656 < n * (i.bytes : Int)) := by
    rw [← hn, ← Int.natCast_mul]; omega
  have h3 : ¬ (n.toNat = 0) := by omega
  have h5 : ¬ (n ≤ 0) := by omega
  have h4 := (show Reads w i.size (.slice none 0 0) 0 [] from ⟨none, 0, rfl, by simp, fun _ _ j u hj => by simp at hj, fun _ => rfl⟩).run (P := P) (w1 := w.drew) (fun _ => rfl)
  have h63' : ¬ (9223372036854775807 < ((n.toNat : Nat) : Int)) := by omega
  have h48' : ¬ (281474976710656 < Builtin.nextslicecap n.toNat 0 * i.bytes) := by
    have := growslice_fits (need := n.toNat) (old := 0) (bytes := i.bytes) (by omega) (by omega)
    omega
  simp [Builtin.append_, run_underlying ht, run_underlying ht', sizeOf, typeInfo, zeroValue, hi, hz, hw, h1, h2, h3, h63', h48', hsz, Question.forced, newRow, grownCap, asInt, asIntOf, h4]
  rw [if_neg h5, if_neg (by omega)]

theorem op_append_zero (hT : TTok P) (hg : G E M σ a w) {d : Nat} (hdst : o.dst = some d) (hdn : d < σ.n) {c : Call} (hop : o.op = .call c) (hc : c.callee = .builtin .append) {x y : Operand} (hx : c.args.toList = [x, y]) {t t' : Nat} (htt : c.argTypes.toList = [t, t'])
    {e : Nat} {i : TI} (ht : elemOf t = some (e, i)) (ht' : isIntT t' = true) (h : appendZ (stdA P) i d (eval σ x) (eval σ y) σ K) : o.wp P a w (Nx E K) Q := by
  unfold appendZ at h
  split at h
  · rename_i hnil
    split at h
    · rename_i n z hn hz
      split at h
      · exact h.elim
      rename_i hs0
      obtain ⟨hn0, hfit, h⟩ := h
      simp only [stdA] at h hfit
      unfold appendNew at h
      split at h
      · exact h.elim
      · obtain ⟨hlt, hio, hg1, hfr, hκ, hK⟩ := mkF_ok hg h
        have hcl := cls_lt hlt
        obtain ⟨hu, inf, zv, cs, hi, hsz, hby, hzv, hzero, hclen, hone, hcells⟩ := elem_types hT ht
        have hu' := int_type hT ht'
        have hv := nilPV_val hg hnil
        have hvy := intOf_val hn (eval_cl hg y)
        have hzs : zv.cells.size = i.size := by rw [hcells]; exact hclen
        have hargs : c.args = #[x, y] := by cases hh : c.args; simp [hh] at hx; rw [hx]
        have htys : c.argTypes = #[t, t'] := by cases hh : c.argTypes; simp [hh] at htt; rw [htt]
        have hrun : ∀ v w', (Builtin.append_ #[t, t'] o.type #[.slice none 0 0, .int .i64 n]).run P w = .ok v w' → (execOp a.eval o).run P w = .ok (.value v) w' := by
          intro v w' hr
          simp [execOp, hop, resolve, hc, invoke, builtin, hargs, htys, hv, hvy, hr]
        by_cases hn1 : n = 0
        · subst hn1
          have ht1 := off_turn hg1 d (fun b => hκ d b hcl)
          have hg2 := hg1.new ht1 (fun b => hκ d b hcl) (hfr d hcl) (noIo_none hio hcl) (f := .row [] i.size .free false) (by simp) ⟨fun _ => by simp, by simp [rubs], fun h => absurd rfl h, [], .nil _ _ _, rfl⟩
          have hK0 : K (put (putF (retire (stdA P) σ d) d (.row [] i.size .free false)) d (.own d none)) := hK
          refine wp_val (v := .slice none 0 0) (w' := w) (hrun _ _ (by
            have hw : IntKind.i64.wrap 0 = 0 := wrap_i64' (by omega) (by omega)
            simp [Builtin.append_, run_underlying hu, run_underlying hu', sizeOf, typeInfo, hi, asInt, asIntOf, hw])) ?_
          rw [hdst]
          refine ⟨_, _, hg2.put hdn (s := .own d none) (fun es sz u io hf => ?_), hK0⟩
          rcases putF_files.1 hf with ⟨_, e⟩ | ⟨e, _⟩
          · cases e
            exact ⟨none, 0, rfl, Nat.le_refl _, Nat.le_refl _, Nat.le_refl _, fun h => absurd rfl h⟩
          · exact absurd rfl e
        · have hm : 0 < n.toNat := by omega
          have run1 := run_append_zero (P := P) (w := w) (t := t) (t' := t') (ty := o.type) hu hu' hi hzv (n := n) (by omega) (by rw [hby]; exact hfit) (by rw [hsz]; exact Nat.mul_ne_zero (by omega) hs0)
          have hcapge := grownCap_ge w n.toNat 0 e
          generalize grownCap w n.toNat 0 e = cap' at run1 hcapge
          generalize hce : Builtin.zeroCells zv.cells n.toNat ++ Builtin.zeroCells zv.cells (cap' - n.toNat) = ce at run1
          have hz1 : (Builtin.zeroCells zv.cells n.toNat).size = n.toNat * i.size := by simp [Builtin.zeroCells, hzs]
          have hce3 : cap' * i.size ≤ ce.size := by
            rw [← hce]
            simp only [Array.size_append, size_zeroCells, hzs, ← Nat.add_mul]
            exact Nat.mul_le_mul_right _ (by omega)
          have hnew : (w.drew.alloc (.cells ce e (0, 0))).heap[w.heap.size]? = some (.cells ce e (0, 0)) := alloc_new (w := w) (w1 := w.drew) rfl _
          have f3 : RepRow (w.drew.alloc (.cells ce e (0, 0))) w.heap.size i.size 0 (List.replicate n.toNat z) [] := zeros_row hz hzero hclen hone hcells (fun j v hj => by
            have hj1 := (List.getElem?_eq_some_iff.1 hj).1
            rw [cell_of hnew, Nat.zero_add, ← hce, Array.getElem?_append_left (by simpa using hj1)]
            simpa using hj)
          have hg2 := made_row hg1 (hfr d hcl) (fun b => hκ d b hcl) (noIo_none hio hcl) (w1 := w.drew) rfl rfl ⟨rfl, Nat.le_succ _⟩ rfl f3 (u := .free) rfl (by simp [rubs])
          refine wp_val (v := .slice (some ⟨w.heap.size, 0, none⟩) n.toNat cap') (w' := w.drew.alloc (.cells ce e (0, 0))) (hrun _ _ run1) ?_
          rw [hdst]
          have := own_new (E := E) (M := M.drop d) (σ := retire (stdA P) σ d) (d := d) (b := w.heap.size) (es := List.replicate n.toNat z) (sz := i.size) (u := .free) (cap := cap') hnew (by rw [List.length_replicate]; omega) hce3
          rw [List.length_replicate] at this
          exact ⟨_, _, hg2.put hdn this, hK⟩
    · exact h.elim
  · exact h.elim

theorem cut_row (hg : G E M σ a w) {t l id sz : Nat} {es : List PV} {u : RU} (hs : σ.slots t = .own id (some (0, l))) (hf : σ.files id = some (.row es sz u false)) :
    G E M (put (putF (kill true σ id) id (.row (es.take l) sz u false)) t (.own id none)) a w := by
  have hh := hg.slots t
  rw [hs] at hh
  obtain ⟨a0, cap, hv, h1, h2, h3, h4⟩ := hh _ _ _ _ hf
  obtain ⟨k0, k1, k2, F, k3, k4⟩ := hg.files _ _ hf
  have hll : (es.take l).length = l := by simp; omega
  have hnoio : E.io id = none := by
    cases hq : E.io id with
    | none => rfl
    | some q => obtain ⟨b, o, n, sz⟩ := q; obtain ⟨⟨es', hf', _⟩, _⟩ := hg.io _ _ _ _ _ hq; rw [hf] at hf'; cases hf'
  have hframe : ∀ b, M.κ b = some id → b < E.w0.heap.size → ∃ i q, E.io i = some (b, q) := fun b hk hb => let ⟨q, hq⟩ := hg.lent b id hb hk; ⟨id, q, hq⟩
  have ht1 : Turn E id M M w w := ⟨fun _ _ _ => rfl, Nat.le_refl _, fun _ _ _ => rfl, fun b j h h' => by rw [h] at h'; cases h'; exact ⟨rfl, (hg.own _ _ h).2⟩, fun b j hb h => by have := (hg.own _ _ h).1; omega, fun _ _ => ⟨rfl, rfl⟩, rfl, TapeLe.rfl', rfl⟩
  obtain ⟨F1, f1, f2⟩ := k3.take l
  have hg2 := hg.turn (hdr := true) ht1 hf (f' := .row (es.take l) sz u false) (fun h => by cases h) (fun _ ls => ⟨by simp, by simp⟩)
    ⟨k0, k1, fun h => k2 (fun e => h (by rw [e]; simp)), F1, f1, by
      cases u with
      | free => simp only [GoodU] at k4 ⊢; subst k4; exact List.eq_nil_iff_forall_not_mem.2 (fun c hc => by have := f2 c hc; simp at this)
      | sh bs => exact fun b hb => k4 b (f2 b hb)⟩
    (fun b hk hb => hg.lent b id hb hk) hframe (fun _ _ _ _ e hk => by first | (cases e; done) | (cases e; exact hg.iob _ _ _ _ _ hf hk)) (fun b oo n sz' hq => by rw [hnoio] at hq; cases hq)
  have hcl : ClS E M (putF (kill true σ id) id (.row (es.take l) sz u false)) w (.own id none) (a.tmps.getD t undef) := by
    intro es' sz' u' io' hf'
    rcases putF_files.1 hf' with ⟨_, e⟩ | ⟨e, _⟩
    · cases e
      exact ⟨a0, cap, by rw [hll]; exact hv, by omega, by omega, by omega, h4⟩
    · exact absurd rfl e
  exact { hg2 with
    slots := fun k => by
      refine ClS.same (σ := putF (kill true σ id) id (.row (es.take l) sz u false)) (fun s v h => Cl1.files rfl s v h) ?_
      show ClS E M _ w (upd (putF (kill true σ id) id (.row (es.take l) sz u false)).slots t (.own id none) k) _
      unfold upd
      by_cases hk : k = t
      · rw [if_pos hk, hk]; exact hcl
      · rw [if_neg hk]; exact hg2.slots k
    files := fun id f hf => (hg2.files id f hf).files rfl }

theorem cut_ok (hg : G E M σ a w) {c : Call} {K' : St → Prop} (h : cutA (stdA P) c σ K') : ∃ σ', G E M σ' a w ∧ σ'.n = σ.n ∧ K' σ' := by
  unfold cutA at h
  split at h
  · split at h
    · split at h
      · rename_i id l hs
        split at h
        · rename_i es sz u hf
          have h : K' (put (putF (kill true σ id) id (.row ((es.drop 0).take l) sz u false)) _ (.own id none)) := h
          rw [List.drop_zero] at h
          exact ⟨_, cut_row hg hs hf, rfl, h⟩
        · exact ⟨_, hg, rfl, h⟩
      · exact ⟨_, hg, rfl, h⟩
    · exact ⟨_, hg, rfl, h⟩
  · exact ⟨_, hg, rfl, h⟩

def Mp.ren (M : Mp) (d d' : Nat) : Mp := { κ := fun b => (M.κ b).map (rn d d'), blk := fun j => M.blk (if j = d' then d else j), off := fun j => M.off (if j = d' then d else j) }

theorem rn_back {d d' j : Nat} (h : j ≠ d') : (if rn d d' j = d' then d else rn d d' j) = j := by
  unfold rn
  by_cases e : j = d
  · rw [if_pos e, if_pos rfl, e]
  · rw [if_neg e, if_neg h]
theorem rn_ne {d d' j : Nat} (hd : d ≠ d') : rn d d' j ≠ d := by
  unfold rn; split
  · exact fun e => hd e.symm
  · assumption
theorem rn_of {d d' j : Nat} (h1 : j ≠ d) (h2 : j ≠ d') : rn d d' (if j = d' then d else j) = j := by rw [if_neg h2]; unfold rn; rw [if_neg h1]
theorem Mp.ren_blk {M : Mp} {d d' j : Nat} (h : j ≠ d') : (M.ren d d').blk (rn d d' j) = M.blk j ∧ (M.ren d d').off (rn d d' j) = M.off j := by
  exact ⟨by show M.blk _ = _; rw [rn_back h], by show M.off _ = _; rw [rn_back h]⟩
theorem Mp.ren_κ {M : Mp} {d d' j b : Nat} (h : M.κ b = some j) : (M.ren d d').κ b = some (rn d d' j) := by unfold Mp.ren; simp only [h]; rfl

theorem ren_files {d d' j : Nat} (hd : d ≠ d') {f : File} : (renS σ d d').files (rn d d' j) = some f → j ≠ d' → ∃ f0, σ.files j = some f0 ∧ renF d d' f0 = some f := by
  intro h hj
  unfold renS at h
  simp only [if_neg (rn_ne (j := j) hd), rn_back hj] at h
  split at h
  · rename_i f0 hf0; exact ⟨f0, hf0, h⟩
  · cases h
theorem ren_row {d d' : Nat} {f0 : File} {es : List PV} {sz : Nat} {u : RU} {io : Bool} (h : renF d d' f0 = some (.row es sz u io)) : ∃ u0, f0 = .row es sz u0 io := by
  cases f0 with
  | cell ls => simp [renF] at h
  | row es' sz' u' io' =>
    cases u' with
    | free => simp only [renF, Option.some.injEq, File.row.injEq] at h; obtain ⟨rfl, rfl, rfl, rfl⟩ := h; exact ⟨_, rfl⟩
    | sh bs =>
      simp only [renF] at h
      split at h
      · cases h
      · simp only [Option.some.injEq, File.row.injEq] at h; obtain ⟨rfl, rfl, rfl, rfl⟩ := h; exact ⟨_, rfl⟩
theorem ren_cell {d d' : Nat} {f0 : File} {ls : List Slot} (h : renF d d' f0 = some (.cell ls)) : ∃ ls0, f0 = .cell ls0 ∧ ls = ls0.map (map2 (ren1 d d')) := by
  cases f0 with
  | cell ls0 => simp only [renF, Option.some.injEq, File.cell.injEq] at h; exact ⟨ls0, rfl, h.symm⟩
  | row es' sz' u' io' =>
    cases u' with
    | free => simp [renF] at h
    | sh bs => simp only [renF] at h; split at h <;> simp at h

theorem ren_good {M : Mp} {w : World} {d d' : Nat} {bs F : List Nat} (h : Good E M w bs F) : Good E (M.ren d d') w (bs.map (rn d d')) F := fun b hb => by
  obtain ⟨h1, h2⟩ := h b hb
  refine ⟨h1, ?_⟩
  rcases h2 with ⟨h2, h3⟩ | ⟨id, h2, h3⟩
  · exact .inl ⟨by unfold Mp.ren; simp only [h2]; rfl, h3⟩
  · exact .inr ⟨_, List.mem_map_of_mem h2, Mp.ren_κ h3⟩
theorem ren_hdr {M : Mp} {w : World} {d d' id n sz o l : Nat} {v : Value} (h : Hdr M w id n sz o l v) (hid : id ≠ d') : Hdr (M.ren d d') w (rn d d' id) n sz o l v := by
  obtain ⟨a0, cap, h1, h2, h3, h4, h5⟩ := h
  refine ⟨a0, cap, h1, h2, h3, h4, fun hc => ?_⟩
  obtain ⟨q1, q2, q3⟩ := h5 hc
  rw [(Mp.ren_blk hid).1, (Mp.ren_blk hid).2]
  exact ⟨q1, Mp.ren_κ q2, q3⟩

theorem ren_cl1 {M : Mp} {w : World} {d d' : Nat} (hd : d ≠ d') (s : Slot) (v : Value) (h : Cl1 E M σ w s v) : Cl1 E (M.ren d d') (renS σ d d') w (ren1 d d' s) v := by
  cases s with
  | pv r bs =>
    simp only [ren1]
    split
    · trivial
    · obtain ⟨F, h1, h2⟩ := h; exact ⟨F, h1, ren_good h2⟩
  | own id sub =>
    simp only [ren1]
    split
    · trivial
    · rename_i hid
      cases sub with
      | none =>
        intro es sz u io hf
        obtain ⟨f0, hf0, e⟩ := ren_files hd hf hid
        obtain ⟨u0, rfl⟩ := ren_row e
        exact ren_hdr (h _ _ _ _ hf0) hid
      | some p =>
        obtain ⟨o, l⟩ := p
        intro es sz u io hf
        obtain ⟨f0, hf0, e⟩ := ren_files hd hf hid
        obtain ⟨u0, rfl⟩ := ren_row e
        exact ren_hdr (h _ _ _ _ hf0) hid
  | ref id o =>
    simp only [ren1]
    split
    · trivial
    · rename_i hid
      intro ls hf
      obtain ⟨f0, hf0, e⟩ := ren_files hd hf hid
      obtain ⟨ls0, rfl, -⟩ := ren_cell e
      rw [(Mp.ren_blk hid).1]
      exact h _ hf0
  | rref id i o =>
    simp only [ren1]
    split
    · trivial
    · rename_i hid
      intro es sz u io hf
      obtain ⟨f0, hf0, e⟩ := ren_files hd hf hid
      obtain ⟨u0, rfl⟩ := ren_row e
      rw [(Mp.ren_blk hid).1, (Mp.ren_blk hid).2]
      exact h _ _ _ _ hf0
  | undef => exact h
  | dead => trivial
  | ag ls => exact h.elim
  | clo f ls => exact h.elim
  | tup ls => exact h.elim

theorem ren_noTup {d d' : Nat} {s : Slot} (h : noTup s = true) : noTup (ren1 d d' s) = true ∨ ren1 d d' s = .dead := by
  cases s with
  | pv r bs =>
    simp only [ren1]
    split
    · exact .inr rfl
    · left; cases r <;> first | exact h | rfl
  | own id sub => simp only [ren1]; split <;> first | exact .inr rfl | exact .inl rfl
  | ref id o => simp only [ren1]; split <;> first | exact .inr rfl | exact .inl rfl
  | rref id i o => simp only [ren1]; split <;> first | exact .inr rfl | exact .inl rfl
  | _ => simp [noTup] at h

theorem map2_leaf {g : Slot → Slot} {s : Slot} (h : noTup s = true) : map2 g s = g s := by
  cases s <;> first | rfl | simp [noTup] at h

theorem ren_ok (hg : G E M σ a w) {d d' : Nat} (hd : d ≠ d') (hk : ∀ b, M.κ b ≠ some d') (h1 : E.io d = none) (h2 : E.io d' = none) : G E (M.ren d d') (renS σ d d') a w where
  slots k := (hg.slots k).map (fun s v h => ren_cl1 hd s v h)
  tmps := hg.tmps
  files j f hf := by
    have hj : j ≠ d := fun e => by unfold renS at hf; simp only [if_pos e] at hf; cases hf
    obtain ⟨i, hi, rfl⟩ : ∃ i, i ≠ d' ∧ rn d d' i = j := by
      by_cases e : j = d'
      · exact ⟨d, hd, by unfold rn; rw [if_pos rfl, e]⟩
      · exact ⟨j, e, by unfold rn; rw [if_neg hj]⟩
    obtain ⟨f0, hf0, e⟩ := ren_files hd hf hi
    have h := hg.files i f0 hf0
    cases f0 with
    | cell ls =>
      simp only [renF, Option.some.injEq] at e
      subst e
      obtain ⟨q1, c, e, q2, q3⟩ := h
      refine ⟨by rw [(Mp.ren_blk hi).1]; exact Mp.ren_κ q1, c, e, by rw [(Mp.ren_blk hi).1]; exact q2, q3.imp fun s v hs => ?_⟩
      rcases hs with ⟨p1, p2, p3⟩ | rfl
      · rw [map2_leaf p3]
        rcases ren_noTup (d := d) (d' := d') p3 with q | q
        · exact .inl ⟨ren_cl1 hd s v p1, p2, q⟩
        · exact .inr q
      · exact .inr rfl
    | row es sz u io =>
      obtain ⟨k0, k1, k2, F, k3, k4⟩ := h
      have hne : es ≠ [] → (M.ren d d').κ ((M.ren d d').blk (rn d d' i)) = some (rn d d' i) ∧ ∃ c e, w.heap[(M.ren d d').blk (rn d d' i)]? = some (.cells c e (0, 0)) := fun h => by
        rw [(Mp.ren_blk hi).1]; exact ⟨Mp.ren_κ (k2 h).1, (k2 h).2⟩
      cases u with
      | free =>
        simp only [renF, Option.some.injEq] at e
        subst e
        exact ⟨by rw [(Mp.ren_blk hi).2]; exact k0, by simp [rubs], hne, F, by rw [(Mp.ren_blk hi).1, (Mp.ren_blk hi).2]; exact k3, k4⟩
      | sh bs =>
        simp only [renF] at e
        split at e
        · cases e
        · rename_i hbs
          simp only [Option.some.injEq] at e
          subst e
          refine ⟨by rw [(Mp.ren_blk hi).2]; exact k0, fun hm => ?_, hne, F, by rw [(Mp.ren_blk hi).1, (Mp.ren_blk hi).2]; exact k3, ren_good k4⟩
          obtain ⟨x, hx, ex⟩ := List.mem_map.1 hm
          have hx' : x ≠ d' := fun e => hbs (by subst e; simpa using hx)
          have : x = i := by
            have e1 := rn_back (d := d) hx'
            have e2 := rn_back (d := d) hi
            rw [ex] at e1
            exact e1.symm.trans e2
          exact k1 (by rw [← this]; exact hx)
  defers := hg.defers
  own b id h := by
    unfold Mp.ren at h
    simp only at h
    cases hb : M.κ b with
    | none => rw [hb] at h; cases h
    | some j =>
      rw [hb] at h
      simp only [Option.map_some, Option.some.injEq] at h
      subst h
      rw [(Mp.ren_blk (fun e => hk b (by rw [hb, e]))).1]
      exact hg.own _ _ hb
  lent b id hb h := by
    unfold Mp.ren at h
    simp only at h
    cases hbk : M.κ b with
    | none => rw [hbk] at h; cases h
    | some j =>
      rw [hbk] at h
      simp only [Option.map_some, Option.some.injEq] at h
      obtain ⟨q, hq⟩ := hg.lent b j hb hbk
      have : j ≠ d := fun e => by rw [e, h1] at hq; cases hq
      subst h
      exact ⟨q, by unfold rn; rw [if_neg this]; exact hq⟩
  frame := hg.frame
  size := hg.size
  os := hg.os
  tape := hg.tape
  out := hg.out
  iob id es sz u b hf hb := by
    have hj : id ≠ d := fun e => by unfold renS at hf; simp only [if_pos e] at hf; cases hf
    obtain ⟨i, hi, rfl⟩ : ∃ i, i ≠ d' ∧ rn d d' i = id := by
      by_cases e : id = d'
      · exact ⟨d, hd, by unfold rn; rw [if_pos rfl, e]⟩
      · exact ⟨id, e, by unfold rn; rw [if_neg hj]⟩
    obtain ⟨f0, hf0, e⟩ := ren_files hd hf hi
    obtain ⟨u0, rfl⟩ := ren_row e
    unfold Mp.ren at hb
    simp only at hb
    cases hbk : M.κ b with
    | none => rw [hbk] at hb; cases hb
    | some j =>
      rw [hbk] at hb
      simp only [Option.map_some, Option.some.injEq] at hb
      have hjd : j ≠ d' := fun e => hk b (by rw [hbk, e])
      have : j = i := by
        have e1 := rn_back (d := d) hjd
        have e2 := rn_back (d := d) hi
        rw [hb] at e1
        exact e1.symm.trans e2
      subst this
      exact hg.iob _ _ _ _ _ hf0 hbk
  io id b o n sz h := by
    obtain ⟨⟨es, hf, hn⟩, q1, q2, q3, q4⟩ := hg.io _ _ _ _ _ h
    have e1 : id ≠ d := fun e => by rw [e, h1] at h; cases h
    have e2 : id ≠ d' := fun e => by rw [e, h2] at h; cases h
    have er : rn d d' id = id := by unfold rn; rw [if_neg e1]
    have hb := Mp.ren_blk (M := M) (d := d) e2
    rw [er] at hb
    refine ⟨⟨es, ?_, hn⟩, by rw [hb.1]; exact q1, by rw [hb.2]; exact q2, by have := Mp.ren_κ (d := d) (d' := d') q3; rwa [er] at this, q4⟩
    unfold renS
    simp only [if_neg e1, if_neg e2, hf]
    rfl

set_option maxRecDepth 20000 in
theorem keep_ok (hg : G E M σ a w) {K' : St → Prop} (h : keepA (stdA P) o σ K') : ∃ M' σ', G E M' σ' a w ∧ σ'.n = σ.n ∧ K' σ' := by
  unfold keepA at h
  split at h
  · rename_i v d hk hd
    split at h
    · split at h
      · have q := mkF_ok (d := kid d) hg h
        have hlt := q.1
        have hio := q.2.1
        have hg1 := q.2.2.1
        have hκ := q.2.2.2.2.1
        have h := q.2.2.2.2.2
        split at h
        · rename_i hok
          have hc : cls (kid d) = kid d := cls_lt hlt
          have hne : d ≠ kid d := Nat.ne_of_lt (Nat.lt_add_of_pos_right (by decide))
          refine ⟨_, _, ren_ok hg1 hne (fun b => hκ _ b hc) ?_ (noIo_none hio hc), rfl, h⟩
          cases hq : E.io d with
          | none => rfl
          | some q => have := (E.small d q hq).1; have := (okD_lt hok).1; omega
        · exact h.elim
      · exact ⟨_, _, hg, rfl, h⟩
    · exact ⟨_, _, hg, rfl, h⟩
  · exact ⟨_, _, hg, rfl, h⟩

end ops
end Go.VAI

namespace Go.VAI
variable {E : Env} {P : Program}

section ops
variable {M : Mp} {σ : St} {a : Act} {w : World} {o : Oper} {K : St → Prop} {Q : Exit → Act → World → Prop}

theorem op_store (hT : TTok P) (hg : G E M σ a w) (hd : o.dst.all (fun d => Nat.blt d σ.n) = true) {t : Nat} {x y : Operand} (hop : o.op = .store t x y) {i : TI} (ht : tt t = some i)
    (h : storeS (stdA P) σ i (eval σ x) (eval σ y) (fun σ' => K (putO σ' o.dst .undef))) : o.wp P a w (Nx E K) Q := by
  unfold storeS at h
  split at h
  · rename_i id p he
    split at h
    · rename_i ls hf
      split at h
      · rename_i hl
        exact op_store_ref hT hg hd hop ht he hf hl h
      · exact h.elim
    · exact h.elim
  · rename_i id q p he
    split at h
    · rename_i es sz u io r hf hr
      obtain ⟨z, hz, h⟩ := h
      split at h
      · rename_i hl
        split at h
        · rename_i z' hz'
          exact op_store_rref hT hg hd hop ht he hf hr hz hl hz' h
        · exact h.elim
      · exact h.elim
    · exact h.elim
  · exact h.elim

theorem dst_put {d : Nat} {s : Slot} (h : o.dst = some d) : putO σ o.dst s = put σ d s := by rw [h]; rfl

theorem aopI_ok (hT : TTok P) (hg : G E M σ a w) (hd : o.dst.all (fun d => Nat.blt d σ.n) = true) (h : aopI (stdA P) o σ K) : o.wp P a w (Nx E K) Q := by
  have mv : ∀ x, o.op = .move x ∨ o.op = .assign x → (if isNilSl x then (match o.dst, elemOf o.type with
      | some d, some (_, e) => mkF (stdA P) σ d (fun σ => K (put (putF σ d (.row [] e.size .free false)) d (.own d none)))
      | _, _ => False) else K (putO σ o.dst (eval σ x))) → o.wp P a w (Nx E K) Q := by
    intro x hop h
    split at h
    · rename_i hx
      split at h
      · rename_i d e0 e hdst hel
        exact op_nil hg hd hop hx hdst h
      · exact h.elim
    · exact op_move hg hd hop h
  unfold aopI at h
  cases hop : o.op with
  | move x => simp only [hop] at h; exact mv x (.inl hop) h
  | assign x => simp only [hop] at h; exact mv x (.inr hop) h
  | pick c x y =>
    simp only [hop] at h
    split at h
    · rename_i t ht
      refine op_pick hg hd hop ht ?_
      cases t <;> exact h
    · exact h.elim
  | alloc t =>
    simp only [hop] at h
    split at h
    · rename_i d i hdst ht
      exact op_alloc hT hg hd hop hdst ht h
    · exact h.elim
  | box t x =>
    simp only [hop] at h
    split at h
    · rename_i d i hdst ht
      exact op_box hT hg hd hop hdst ht h
    · exact h.elim
  | build t ps =>
    simp only [hop] at h
    split at h
    · rename_i d i hdst ht
      split at h
      · rename_i ls hls
        split at h
        · rename_i hag; exact op_build hT hg hd hop hdst ht hls hag h
        · exact h.elim
      · exact h.elim
    · exact h.elim
  | buildSlice t n ps =>
    simp only [hop] at h
    split at h
    · rename_i d e i hdst ht
      split at h
      · rename_i hn; exact op_buildSlice hT hg hd hop hdst ht hn h
      · exact h.elim
    · exact h.elim
  | load t x =>
    simp only [hop] at h
    split at h
    · rename_i i ht; exact op_load hT hg hd hop ht h
    · exact h.elim
  | store t x y =>
    simp only [hop] at h
    split at h
    · rename_i i ht; exact op_store hT hg hd hop ht h
    · exact h.elim
  | binOp op t x y t' =>
    simp only [hop] at h
    split at h
    · rename_i hy
      split at h
      · rename_i p he
        obtain ⟨e, i⟩ := p
        exact op_nilCmp hT hg hd hop hy he h
      · exact h.elim
    · exact op_binOp hT hg hd hop h
  | unOp op t x =>
    simp only [hop] at h
    exact op_unOp hg hd hop h
  | convert t' t x =>
    simp only [hop] at h
    split at h
    · rename_i i' hi'; exact op_convert hT hg hd hop hi' h
    · exact h.elim
  | makeFunc fn first caps =>
    cases fn with
    | func f =>
      simp only [hop] at h
      split at h
      · rename_i hf; exact op_makeFunc hg hd hop hf h
      · exact h.elim
    | _ => simp only [hop] at h
  | makeSlice t l c =>
    simp only [hop] at h
    split at h
    · rename_i d e i k n hdst ht hn
      split at h
      · rename_i hs
        split at h
        · rename_i z hz; exact op_makeSlice hT hg hd hop hdst ht hn hs hz h
        · exact h.elim
      · exact h.elim
    · exact h.elim
  | slice t x lo hi mx =>
    simp only [hop] at h
    split at h
    · rename_i e i ht
      exact op_slice hT hg hd hop ht h
    · rename_i m e i ht
      split at h
      · exact op_slice3 hT hg hd hop ht h
      · exact h.elim
    · exact h.elim
  | fieldAddr t x f =>
    simp only [hop] at h
    split at h
    · rename_i i ht
      split at h
      · rename_i hl
        split at h
        · rename_i s hs; exact op_fieldAddr hT hg hd hop ht hl hs h
        · exact h.elim
      · exact h.elim
    · exact h.elim
  | field t x f =>
    simp only [hop] at h
    split at h
    · rename_i i ht
      split at h
      · rename_i s hs; exact op_field hT hg hd hop ht hs h
      · exact h.elim
    · exact h.elim
  | indexAddr t x ix =>
    simp only [hop] at h
    split at h
    · rename_i e i ht; exact op_indexAddr hT hg hd hop ht h
    · exact h.elim
  | extract t i =>
    simp only [hop] at h
    split at h
    · rename_i ls hl
      split at h
      · rename_i s hs
        split at h
        · exact h.elim
        · exact op_extract hg hd hop hl hs h
      · exact h.elim
    · exact h.elim
  | call c =>
    simp only [hop] at h
    split at h
    · rename_i fv hc
      split at h
      · rename_i d hdst
        obtain ⟨σ', hg', hn, h⟩ := cut_ok hg h
        exact op_call hg' hdst (by rw [hn]; exact lt_of_dst hd hdst) hop hc h
      · exact h.elim
    · rename_i hc
      split at h
      · rename_i x t hx htt
        split at h
        · rename_i e n ht hn; exact op_len hT hg hd hop hc hx htt ht hn h
        · exact h.elim
      · exact h.elim
    · rename_i hc
      split at h
      · rename_i x y hx
        split at h
        · rename_i k m k' n hm hn
          split at h
          · rename_i hk; subst hk; exact op_max hg hd hop hc hx hm hn h
          · exact h.elim
        · exact h.elim
      · exact h.elim
    · rename_i hc
      split at h
      · rename_i x y hx
        split at h
        · rename_i k m k' n hm hn
          split at h
          · rename_i hk; subst hk; exact op_min hg hd hop hc hx hm hn h
          · exact h.elim
        · exact h.elim
      · exact h.elim
    · rename_i hc
      split at h
      · rename_i x t hx htt
        split at h
        · rename_i p ht hn
          exact op_cap hT hg hd hop hc hx htt ht hn h
        · exact h.elim
      · exact h.elim
    · rename_i hc
      split at h
      · rename_i x t hdst hx htt
        split at h
        · rename_i e i ht
          unfold clearS at h
          split at h
          · rename_i id p l hs
            split at h
            · rename_i es sz io hf
              split at h
              · rename_i hk; subst hk
                split at h
                · rename_i z hz
                  refine op_clear hT hg hdst hop hc hx htt ht hf hs hz ?_
                  have e1 : (stdA P).spl es p ((stdA P).rep l z) = es.take p ++ List.replicate l z ++ es.drop (p + l) := by
                    show es.take p ++ List.replicate l z ++ es.drop (p + (List.replicate l z).length) = _
                    rw [List.length_replicate]
                  rw [← e1]; exact h
                · exact h.elim
              · exact h.elim
            · exact h.elim
          · exact h.elim
        · exact h.elim
      · exact h.elim
    · rename_i hc
      split at h
      · rename_i d x y t t' hdst hx htt
        split at h
        · rename_i hk; subst hk
          split at h
          · rename_i e i ht; exact op_append hT hg hdst (lt_of_dst hd hdst) hop hc hx htt ht h
          · exact h.elim
        · split at h
          · rename_i e i ht ht'; exact op_append_zero hT hg hdst (lt_of_dst hd hdst) hop hc hx htt ht ht' h
          · exact h.elim
      · exact h.elim
    · exact h.elim
  | _ => simp only [hop] at h

theorem aop_ok (hT : TTok P) (hg : G E M σ a w) (hd : o.dst.all (fun d => Nat.blt d σ.n) = true) (h : aop (stdA P) o σ K) : o.wp P a w (Nx E K) Q := by
  unfold aop at h
  obtain ⟨M', σ', hg', hn, h⟩ := keep_ok hg h
  exact aopI_ok hT hg' (by rw [hn]; exact hd) h

end ops
end Go.VAI

namespace Go.VAI
variable {E : Env} {P : Program}

section regions
variable {M : Mp} {σ : St} {a : Act} {w : World} {o : Oper} {Q : Exit → Act → World → Prop}

theorem tmp_some (hg : G E M σ a w) {t : Nat} {b : Bool} {bs : List Nat} (h : σ.slots t = .pv (.val (.bool b)) bs) : a.tmps[t]? = some (.bool b) := by
  have hc := hg.slots t
  rw [h] at hc
  have hv := boolOf_val (E := E) (M := M) (σ := σ) (w := w) (s := .pv (.val (.bool b)) bs) rfl hc
  rw [Array.getD_eq_getD_getElem?] at hv
  cases hq : a.tmps[t]? with
  | none => rw [hq] at hv; cases hv
  | some v => rw [hq] at hv; simp at hv; rw [hv]

theorem tmp_undef (hg : G E M σ a w) {t : Nat} (h : σ.slots t = .undef) : a.tmps[t]? = none ∨ a.tmps[t]? = some undef := by
  have hc : a.tmps.getD t undef = undef := by
    have := hg.slots t
    rw [h] at this; exact this
  rw [Array.getD_eq_getD_getElem?] at hc
  cases hq : a.tmps[t]? with
  | none => exact .inl rfl
  | some v => rw [hq] at hc; simp at hc; exact .inr (by rw [hc])

/-- One operation, if it is wanted. -/
theorem aopG_ok (hT : TTok P) (hg : G E M σ a w) {ops : Array Oper} {K : St → Prop} (h : aopG (stdA P) ops o σ K) {N : Act → World → Prop} (hN : ∀ a w, Nx E K a w → N a w) :
    if Region.wanted o (yielded ops a.tmps) then o.wp P a w N Q else N (a.put o.dst undef) w := by
  unfold aopG at h
  split at h
  · rename_i hd
    have skip : K (putO σ o.dst .undef) → N (a.put o.dst undef) w := fun hK => hN _ _ ⟨M, _, hg.putO hd undef_cl, hK⟩
    have act : aop (stdA P) o σ K → o.wp P a w N Q := fun hK => Oper.wp_mono hN (aop_ok hT hg hd hK)
    split at h
    · rename_i hgd
      simp only [Region.wanted, hgd, if_true]
      exact act h
    · rename_i j want hgd
      split at h
      · rename_i t ht
        have hy : yielded ops a.tmps j = match a.tmps[t]? with | some (.bool b) => some b | _ => none := by
          unfold yielded; rw [ht]; rfl
        split at h
        · rename_i b bs hs
          have hy' : yielded ops a.tmps j = some b := by rw [hy, tmp_some hg hs]
          simp only [Region.wanted, hgd, hy']
          cases b <;> cases want <;> simp only at h <;> simp <;> first | exact act h | exact skip h
        · rename_i hs
          have hy' : yielded ops a.tmps j = none := by
            rw [hy]
            rcases tmp_undef hg hs with e | e <;> rw [e] <;> rfl
          simp only [Region.wanted, hgd, hy']
          simp
          exact skip h
        · exact h.elim
      · exact h.elim
  · exact h.elim

theorem aops_ok (hT : TTok P) {ops : Array Oper} : ∀ {l : List Oper} {M : Mp} {σ : St} {a : Act} {w : World} {K : St → Prop}, G E M σ a w → aops (stdA P) ops l σ K → (∀ a w, Nx E K a w → Q .normal a w) → wpList P ops Q l a w
  | [], M, σ, a, w, K, hg, h, hQ => hQ _ _ ⟨M, σ, hg, h⟩
  | o :: l, M, σ, a, w, K, hg, h, hQ => by
    have := aopG_ok (Q := Q) hT hg h (N := wpList P ops Q l) (fun a w ⟨M', σ', hg', h'⟩ => aops_ok hT hg' h' hQ)
    unfold wpList
    split
    · rename_i hw; rw [if_pos hw] at this; exact .inl this
    · rename_i hw; rw [if_neg hw] at this; exact this

end regions
end Go.VAI

namespace Go.VAI

/-! ### What an operation looks at -/

def see1 : Slot → List Nat
  | .own id _ => [id]
  | .ref id _ => [id]
  | .rref id _ _ => [id]
  | _ => []

def see2 (σ : St) : Slot → List Nat
  | .ag ls => ls.flatMap see1
  | .ref id _ => id :: (match σ.files id with
    | some (.cell ls) => ls.flatMap see1
    | _ => [])
  | s => see1 s

def seeS (σ : St) : Slot → List Nat
  | .clo _ caps => if caps.all isLeaf then caps.flatMap (see2 σ) else []
  | s => see2 σ s

variable {A : Ar} {σ σ' : St}

theorem optAll_congr {α β : Type} {f g : α → Option β} : ∀ {ls : List α}, (∀ s ∈ ls, f s = g s) → optAll f ls = optAll g ls
  | [], _ => rfl
  | x :: ls, h => by
    simp only [optAll]
    rw [h x (by simp), optAll_congr (fun s hs => h s (by simp [hs]))]

theorem content_same {id : Nat} {sub : Option (Nat × Nat)} (h : σ'.files id = σ.files id) : content A σ' id sub = content A σ id sub := by
  unfold content; rw [h]

theorem pv1_same {s : Slot} (h : ∀ id ∈ see1 s, σ'.files id = σ.files id) : pv1 A σ' s = pv1 A σ s := by
  cases s with
  | own id sub => simp only [pv1]; rw [content_same (h id (by simp [see1]))]
  | _ => rfl

theorem pv2_same {s : Slot} (h : ∀ id ∈ see2 σ s, σ'.files id = σ.files id) : pv2 A σ' s = pv2 A σ s := by
  cases s with
  | ag ls =>
    simp only [pv2]
    rw [optAll_congr (fun s hs => pv1_same (fun id hid => h id (List.mem_flatMap.2 ⟨s, hs, hid⟩)))]
  | ref id o =>
    simp only [pv2]
    have h0 := h id (by simp [see2])
    rw [h0]
    split
    · rename_i ls hf
      rw [optAll_congr (fun s hs => pv1_same (fun i hi => h i (by simp only [see2, hf, List.mem_cons]; exact .inr (List.mem_flatMap.2 ⟨s, List.mem_of_mem_drop hs, hi⟩))))]
    · rfl
  | own id sub => exact pv1_same (s := .own id sub) h
  | _ => rfl

theorem toPV_same {s : Slot} (h : ∀ id ∈ seeS σ s, σ'.files id = σ.files id) : toPV A σ' s = toPV A σ s := by
  cases s with
  | clo f caps =>
    simp only [toPV]
    by_cases hl : caps.all isLeaf = true
    · rw [if_pos hl, if_pos hl]
      rw [optAll_congr (fun s hs => pv2_same (fun id hid => h id (by simp only [seeS]; rw [if_pos hl]; exact List.mem_flatMap.2 ⟨s, hs, hid⟩)))]
    · rw [if_neg hl, if_neg hl]
  | ag ls => exact pv2_same (s := .ag ls) h
  | ref id o => exact pv2_same (s := .ref id o) h
  | own id sub => exact pv2_same (s := .own id sub) h
  | _ => rfl

theorem refs1_same {s : Slot} (h : ∀ id ∈ see1 s, σ'.files id = σ.files id) : refs1 σ' s = refs1 σ s := by
  cases s with
  | own id sub => simp only [refs1]; rw [h id (by simp [see1])]
  | _ => rfl

theorem flatMap_congr {α β : Type} {f g : α → List β} : ∀ {ls : List α}, (∀ s ∈ ls, f s = g s) → ls.flatMap f = ls.flatMap g
  | [], _ => rfl
  | x :: ls, h => by
    simp only [List.flatMap_cons]
    rw [h x (by simp), flatMap_congr (fun s hs => h s (by simp [hs]))]

theorem refs2_same {s : Slot} (h : ∀ id ∈ see2 σ s, σ'.files id = σ.files id) : refs2 σ' s = refs2 σ s := by
  cases s with
  | ag ls => simp only [refs2]; exact flatMap_congr (fun s hs => refs1_same (fun id hid => h id (List.mem_flatMap.2 ⟨s, hs, hid⟩)))
  | ref id o =>
    simp only [refs2]
    rw [h id (by simp [see2])]
    split
    · rename_i ls hf
      rw [flatMap_congr (fun s hs => refs1_same (fun i hi => h i (by simp only [see2, hf, List.mem_cons]; exact .inr (List.mem_flatMap.2 ⟨s, hs, hi⟩))))]
    · rfl
  | own id sub => exact refs1_same (s := .own id sub) h
  | _ => rfl

theorem refsOf_same {s : Slot} {r : PV} (hp : toPV A σ s = some r) (h : ∀ id ∈ seeS σ s, σ'.files id = σ.files id) : refsOf σ' s = refsOf σ s := by
  cases s with
  | clo f caps =>
    have hl : caps.all isLeaf = true := by
      simp only [toPV] at hp
      split at hp
      · assumption
      · cases hp
    simp only [refsOf]; exact flatMap_congr (fun s hs => refs2_same (fun id hid => h id (by simp only [seeS]; rw [if_pos hl]; exact List.mem_flatMap.2 ⟨s, hs, hid⟩)))
  | ag ls => exact refs2_same (s := .ag ls) h
  | ref id o => exact refs2_same (s := .ref id o) h
  | own id sub => exact refs2_same (s := .own id sub) h
  | _ => rfl

theorem liveS_same {s : Slot} (h : ∀ id ∈ see1 s, σ'.files id = σ.files id) : liveS σ' s = liveS σ s := by
  cases s with
  | pv r bs => cases r <;> rfl
  | own id sub => simp only [liveS]; rw [h id (by simp [see1])]
  | ref id o => simp only [liveS]; rw [h id (by simp [see1])]
  | rref id i o => simp only [liveS]; rw [h id (by simp [see1])]
  | _ => rfl

theorem see_leaves {s : Slot} : ∀ t ∈ sleaves s, ∀ id ∈ see1 t, id ∈ seeS σ s := by
  intro t ht id hid
  cases s with
  | ag ls => exact List.mem_flatMap.2 ⟨t, ht, hid⟩
  | pv r bs => cases r <;> simp only [sleaves, List.mem_singleton, List.mem_map] at ht <;> first | (subst ht; simp [see1] at hid) | (obtain ⟨x, _, rfl⟩ := ht; simp [see1] at hid)
  | ref i o => simp only [sleaves, List.mem_singleton] at ht; subst ht; simp only [see1, List.mem_singleton] at hid; subst hid; simp [seeS, see2]
  | own i sub => simp only [sleaves, List.mem_singleton] at ht; subst ht; exact hid
  | rref i x o => simp only [sleaves, List.mem_singleton] at ht; subst ht; exact hid
  | clo f ls => simp only [sleaves, List.mem_singleton] at ht; subst ht; simp [see1] at hid
  | tup ls => simp only [sleaves, List.mem_singleton] at ht; subst ht; simp [see1] at hid
  | undef => simp only [sleaves, List.mem_singleton] at ht; subst ht; simp [see1] at hid
  | dead => simp only [sleaves, List.mem_singleton] at ht; subst ht; simp [see1] at hid

theorem all_live_same {s : Slot} (h : ∀ id ∈ seeS σ s, σ'.files id = σ.files id) : (sleaves s).all (liveS σ') = (sleaves s).all (liveS σ) := by
  have : ∀ l : List Slot, (∀ t ∈ l, liveS σ' t = liveS σ t) → l.all (liveS σ') = l.all (liveS σ) := by
    intro l
    induction l with
    | nil => intro _; rfl
    | cons x l ih => intro hl; simp only [List.all_cons]; rw [hl x (by simp), ih (fun t ht => hl t (by simp [ht]))]
  exact this _ (fun t ht => liveS_same (fun id hid => h id (see_leaves t ht id hid)))

theorem lenS_same {s : Slot} (h : ∀ id ∈ seeS σ s, σ'.files id = σ.files id) : lenS A σ' s = lenS A σ s := by
  cases s with
  | own id sub => simp only [lenS]; rw [h id (by simp [seeS, see2, see1])]
  | pv r bs => cases r with
    | val v => cases v with
      | slice a n c => cases a <;> cases n <;> cases c <;> rfl
      | _ => rfl
    | _ => rfl
  | _ => rfl

theorem loadS_same {t : TI} {s : Slot} {K : Slot → Prop} (h : ∀ id ∈ seeS σ s, σ'.files id = σ.files id) : loadS A σ' t s K = loadS A σ t s K := by
  cases s with
  | ref id o => simp only [loadS]; rw [h id (by simp [seeS, see2])]
  | rref id i o => simp only [loadS]; rw [h id (by simp [seeS, see2, see1])]
  | pv r bs => cases r <;> rfl
  | _ => rfl

theorem indexAddrS_same {t : TI} {s i : Slot} {K : Slot → Prop} (h : ∀ id ∈ seeS σ s, σ'.files id = σ.files id) : indexAddrS A σ' t s i K = indexAddrS A σ t s i K := by
  unfold indexAddrS
  cases s with
  | own id sub => simp only; rw [h id (by simp [seeS, see2, see1])]
  | pv r bs => cases r <;> rfl
  | _ => rfl

theorem bound_same {x : Option Operand} {n : Nat} {K : Nat → Prop} (h : ∀ y, x = some y → eval σ' y = eval σ y) : bound σ' A x n K = bound σ A x n K := by
  cases x with
  | none => rfl
  | some y => simp only [bound]; rw [h y rfl]

theorem sliceS_same {e : TI} {s : Slot} {lo hi : Option Operand} {K : Slot → Prop} (h : ∀ id ∈ seeS σ s, σ'.files id = σ.files id) (hl : ∀ y, lo = some y → eval σ' y = eval σ y) (hh : ∀ y, hi = some y → eval σ' y = eval σ y) :
    sliceS A σ' e s lo hi K = sliceS A σ e s lo hi K := by
  unfold sliceS
  cases s with
  | own id sub => simp only [bound_same hl, bound_same hh]; rw [h id (by simp [seeS, see2, see1])]
  | pv r bs =>
    cases r with
    | val v =>
      simp only [bound_same hl, bound_same hh]
      cases v with
      | slice a n c => cases a <;> cases n <;> cases c <;> rfl
      | _ => rfl
    | _ => first | rfl | simp only [bound_same hl, bound_same hh]
  | _ => rfl

theorem partsOf_same {e : TI} : ∀ {ps : List (Nat × Operand)} {k : Nat}, (∀ p ∈ ps, eval σ' p.2 = eval σ p.2) → (∀ p ∈ ps, ∀ id ∈ seeS σ (eval σ p.2), σ'.files id = σ.files id) → partsOf A σ' e k ps = partsOf A σ e k ps
  | [], _, _, _ => rfl
  | (i, x) :: ps, k, h1, h2 => by
    simp only [partsOf]
    rw [h1 (i, x) (by simp)]
    have : pv2 A σ' (eval σ x) = pv2 A σ (eval σ x) := by
      have h3 := h2 (i, x) (by simp)
      cases hs : eval σ x with
      | clo f ls => rfl
      | ag ls => rw [hs] at h3; exact pv2_same (s := .ag ls) h3
      | ref id o => rw [hs] at h3; exact pv2_same (s := .ref id o) h3
      | own id sub => rw [hs] at h3; exact pv2_same (s := .own id sub) h3
      | _ => rfl
    rw [this, partsOf_same (fun p hp => h1 p (by simp [hp])) (fun p hp => h2 p (by simp [hp]))]

theorem fillS_same {t : TI} : ∀ {ps : List (Nat × Operand)} {acc : List Slot}, (∀ p ∈ ps, eval σ' p.2 = eval σ p.2) → (∀ p ∈ ps, ∀ id ∈ seeS σ (eval σ p.2), σ'.files id = σ.files id) → fillS t σ' ps acc = fillS t σ ps acc
  | [], _, _, _ => rfl
  | (i, x) :: ps, acc, h1, h2 => by
    simp only [fillS]
    rw [h1 (i, x) (by simp), all_live_same (h2 (i, x) (by simp))]
    have ih := fun acc => fillS_same (t := t) (ps := ps) (acc := acc) (fun p hp => h1 p (by simp [hp])) (fun p hp => h2 p (by simp [hp]))
    simp only [ih]

end Go.VAI

namespace Go.VAI

/-! ### States in which nothing speaks of a file -/

def nrF2 (id : Nat) : File → Prop
  | .cell ls => ∀ s ∈ ls, nr2 id s
  | .row _ _ u _ => id ∉ rubs u

structure Fr (σ : St) (id : Nat) : Prop where
  slots : ∀ k, nrS id (σ.slots k)
  files : ∀ j f, σ.files j = some f → nrF2 id f
  none : σ.files id = none

theorem nr2_1 {id : Nat} {s : Slot} (h : nr2 id s) : nr1 id s := by
  cases s <;> first | exact h | exact trivial

theorem Fr.fresh {σ : St} {id : Nat} (h : Fr σ id) : Fresh σ id :=
  ⟨h.slots, fun j f hf => by
    have := h.files j f hf
    cases f with
    | cell ls => exact fun s hs => nr2_1 (this s hs)
    | row es sz u io => exact this, h.none⟩

variable {A : Ar} {σ : St} {d : Nat}

theorem dropB_id {bs : List Nat} (h : ∀ id, cls id = d → id ∉ bs) : dropB d bs = bs := by
  unfold dropB
  rw [List.filter_eq_self]
  intro i hi
  have : cls i ≠ d := fun e => h i e hi
  simpa using this

theorem ret1_id {s : Slot} (h : ∀ id, cls id = d → nr1 id s) : ret1 A σ d s = s := by
  cases s with
  | pv r bs => simp only [ret1]; rw [dropB_id h]
  | own j sub => simp only [ret1]; rw [if_neg (fun e => h j e rfl)]
  | ref j o => simp only [ret1]; rw [if_neg (fun e => h j e rfl)]
  | rref j i o => simp only [ret1]; rw [if_neg (fun e => h j e rfl)]
  | _ => rfl

theorem map_id {α : Type} {f : α → α} {l : List α} (h : ∀ x ∈ l, f x = x) : l.map f = l := by
  induction l with
  | nil => rfl
  | cons x l ih => simp only [List.map_cons]; rw [h x (by simp), ih (fun y hy => h y (by simp [hy]))]

theorem map2_ret_id {s : Slot} (h : ∀ id, cls id = d → nr2 id s) : map2 (ret1 A σ d) s = s := by
  cases s with
  | ag ls => simp only [map2]; rw [map_id (fun x hx => ret1_id (fun id hid => h id hid x hx))]
  | clo f ls => simp only [map2]; rw [map_id (fun x hx => ret1_id (fun id hid => h id hid x hx))]
  | pv r bs => exact ret1_id (A := A) (σ := σ) (s := .pv r bs) h
  | own j sub => exact ret1_id (A := A) (σ := σ) (s := .own j sub) h
  | ref j o => exact ret1_id (A := A) (σ := σ) (s := .ref j o) h
  | rref j i o => exact ret1_id (A := A) (σ := σ) (s := .rref j i o) h
  | _ => rfl

theorem mapS_ret_id {s : Slot} (h : ∀ id, cls id = d → nrS id s) : mapS (ret1 A σ d) s = s := by
  cases s with
  | tup ls => simp only [mapS]; rw [map_id (fun x hx => map2_ret_id (fun id hid => h id hid x hx))]
  | pv r bs => exact map2_ret_id (A := A) (σ := σ) (s := .pv r bs) h
  | ag ls => exact map2_ret_id (A := A) (σ := σ) (s := .ag ls) h
  | own j sub => exact map2_ret_id (A := A) (σ := σ) (s := .own j sub) h
  | ref j o => exact map2_ret_id (A := A) (σ := σ) (s := .ref j o) h
  | rref j i o => exact map2_ret_id (A := A) (σ := σ) (s := .rref j i o) h
  | clo f ls => exact map2_ret_id (A := A) (σ := σ) (s := .clo f ls) h
  | _ => rfl

theorem retF_id {f : File} (h : ∀ id, cls id = d → nrF2 id f) : retF A σ d f = f := by
  cases f with
  | cell ls => simp only [retF]; rw [map_id (fun x hx => map2_ret_id (fun id hid => h id hid x hx))]
  | row es sz u io =>
    cases u with
    | free => rfl
    | sh bs => simp only [retF]; rw [dropB_id (bs := bs) h]

theorem retire_id (h : ∀ id, cls id = d → Fr σ id) : retire A σ d = σ := by
  obtain ⟨n, sl, fl⟩ := σ
  unfold retire
  congr 1
  · funext k
    exact mapS_ret_id (fun id hid => (h id hid).slots k)
  · funext j
    by_cases hc : cls j = d
    · rw [if_pos hc]; exact ((h j hc).none).symm
    · rw [if_neg hc]
      show (match fl j with | some f => some (retF A ⟨n, sl, fl⟩ d f) | none => none) = fl j
      cases hf : fl j with
      | none => rfl
      | some f => simp only; rw [retF_id (fun id hid => (h id hid).files j f hf)]

theorem nr1_ret' {id : Nat} (hc : cls id = d) (s : Slot) : nr1 id (ret1 A σ d s) := nr1_ret hc s

theorem nr2_ret' {id : Nat} (hc : cls id = d) (s : Slot) : nr2 id (map2 (ret1 A σ d) s) := by
  cases s with
  | ag ls => intro t ht; obtain ⟨x, _, rfl⟩ := List.mem_map.1 ht; exact nr1_ret hc x
  | clo f ls => intro t ht; obtain ⟨x, _, rfl⟩ := List.mem_map.1 ht; exact nr1_ret hc x
  | tup ls => exact trivial
  | pv r bs => exact nr2_of1 (ret1_leaf (A := A) (σ := σ) (d := d) (.pv r bs) (by simp) (by simp) (by simp)).1 (ret1_leaf (A := A) (σ := σ) (d := d) (.pv r bs) (by simp) (by simp) (by simp)).2.1 (nr1_ret (A := A) (σ := σ) hc (.pv r bs))
  | own j sub => exact nr2_of1 (ret1_leaf (A := A) (σ := σ) (d := d) (.own j sub) (by simp) (by simp) (by simp)).1 (ret1_leaf (A := A) (σ := σ) (d := d) (.own j sub) (by simp) (by simp) (by simp)).2.1 (nr1_ret (A := A) (σ := σ) hc (.own j sub))
  | ref j o => exact nr2_of1 (ret1_leaf (A := A) (σ := σ) (d := d) (.ref j o) (by simp) (by simp) (by simp)).1 (ret1_leaf (A := A) (σ := σ) (d := d) (.ref j o) (by simp) (by simp) (by simp)).2.1 (nr1_ret (A := A) (σ := σ) hc (.ref j o))
  | rref j i o => exact nr2_of1 (ret1_leaf (A := A) (σ := σ) (d := d) (.rref j i o) (by simp) (by simp) (by simp)).1 (ret1_leaf (A := A) (σ := σ) (d := d) (.rref j i o) (by simp) (by simp) (by simp)).2.1 (nr1_ret (A := A) (σ := σ) hc (.rref j i o))
  | undef => exact trivial
  | dead => exact trivial

theorem nrS_ret' {id : Nat} (hc : cls id = d) (s : Slot) : nrS id (mapS (ret1 A σ d) s) := by
  have leaf : ∀ s, (∀ ls, s ≠ .ag ls) → (∀ f ls, s ≠ .clo f ls) → (∀ ls, s ≠ .tup ls) → nrS id (ret1 A σ d s) := fun s h1 h2 h3 =>
    nrS_of2 (ret1_leaf s h1 h2 h3).2.2 (nr2_of1 (ret1_leaf s h1 h2 h3).1 (ret1_leaf s h1 h2 h3).2.1 (nr1_ret hc s))
  cases s with
  | tup ls => intro t ht; obtain ⟨x, _, rfl⟩ := List.mem_map.1 ht; exact nr2_ret' hc x
  | ag ls => exact nr2_ret' (A := A) (σ := σ) hc (.ag ls)
  | clo f ls => exact nr2_ret' (A := A) (σ := σ) hc (.clo f ls)
  | pv r bs => exact leaf (.pv r bs) (by simp) (by simp) (by simp)
  | own j sub => exact leaf (.own j sub) (by simp) (by simp) (by simp)
  | ref j o => exact leaf (.ref j o) (by simp) (by simp) (by simp)
  | rref j i o => exact leaf (.rref j i o) (by simp) (by simp) (by simp)
  | undef => exact trivial
  | dead => exact trivial

theorem retire_fr {id : Nat} (hc : cls id = d) : Fr (retire A σ d) id where
  slots k := nrS_ret' hc (σ.slots k)
  files j f hf := by
    obtain ⟨_, f0, _, rfl⟩ := retire_files.1 hf
    cases f0 with
    | cell ls => intro t ht; obtain ⟨x, _, rfl⟩ := List.mem_map.1 ht; exact nr2_ret' hc x
    | row es sz u io =>
      cases u with
      | free => simp [retF, nrF2, rubs]
      | sh bs => exact fun h => (mem_dropB.1 h).2 hc
  none := by simp [retire, hc]

theorem mkF_fr {K : St → Prop} (h : ∀ id, cls id = d → Fr σ id) : mkF A σ d K = if okD d then K σ else False := by
  unfold mkF
  by_cases hb : okD d = true
  · rw [retire_id h]
  · simp [hb]

end Go.VAI

namespace Go.VAI
variable {A : Ar} {σ : St} {d : Nat} {o : Oper} {K : St → Prop}

/-- A calm operation, where nothing speaks of the files that it may make. -/
theorem aopI_eq (hc : calm o = true) (hd : o.dst = some d) (hfr : makes o = true → ∀ id, cls id = d → Fr σ id) : aopI A o σ K = aopN A o d σ (fun s fs => K (put (putFs σ fs) d s)) := by
  have mv : ∀ x, (o.op = .move x ∨ o.op = .assign x) → (if isNilSl x then (match o.dst, elemOf o.type with
      | some d, some (_, e) => mkF A σ d (fun σ => K (put (putF σ d (.row [] e.size .free false)) d (.own d none)))
      | _, _ => False) else K (putO σ o.dst (eval σ x))) = (if isNilSl x then (match elemOf o.type with
      | some (_, e) => if okD d then K (put (putFs σ [(d, .row [] e.size .free false)]) d (.own d none)) else False
      | none => False) else K (put (putFs σ []) d (eval σ x))) := by
    intro x hop
    by_cases hx : isNilSl x = true
    · rw [if_pos hx, if_pos hx, hd]
      have hm : makes o = true := by
        obtain ⟨dst, op, ty, pos, after, guard⟩ := o
        rcases hop with hop | hop <;> (simp only at hop; subst hop; exact hx)
      cases elemOf o.type with
      | none => rfl
      | some p => obtain ⟨e0, e⟩ := p; simp only; rw [mkF_fr (hfr hm)]; rfl
    · rw [if_neg hx, if_neg hx, hd]; rfl
  unfold aopI aopN
  cases hop : o.op with
  | move x => exact mv x (.inl hop)
  | assign x => exact mv x (.inr hop)
  | pick c x y => simp only [hd]; rfl
  | alloc t =>
    have hm : makes o = true := by obtain ⟨dst, op, ty, pos, after, guard⟩ := o; simp only at hop; subst hop; rfl
    simp only [hd]
    cases tt t with
    | none => rfl
    | some i => simp only; rw [mkF_fr (hfr hm)]; rfl
  | box t x =>
    have hm : makes o = true := by obtain ⟨dst, op, ty, pos, after, guard⟩ := o; simp only at hop; subst hop; rfl
    simp only [hd]
    cases tt t with
    | none => rfl
    | some i => simp only; rw [mkF_fr (hfr hm)]; rfl
  | build t ps => simp only [hd]; cases tt t <;> rfl
  | buildSlice t n ps =>
    have hm : makes o = true := by obtain ⟨dst, op, ty, pos, after, guard⟩ := o; simp only at hop; subst hop; rfl
    simp only [hd]
    cases elemOf t with
    | none => rfl
    | some p => obtain ⟨e0, e⟩ := p; simp only; rw [mkF_fr (hfr hm)]; rfl
  | load t x => simp only [hd]; rfl
  | binOp op t x y t' =>
    simp only [calm, hop, Bool.and_eq_true, Bool.not_eq_true'] at hc
    simp only [hd, hc.2]; rfl
  | unOp op t x => simp only [hd]; rfl
  | convert t' t x => simp only [hd]; rfl
  | makeFunc fn first caps => cases fn <;> simp only [hd] <;> rfl
  | makeSlice t l c =>
    have hm : makes o = true := by obtain ⟨dst, op, ty, pos, after, guard⟩ := o; simp only at hop; subst hop; rfl
    simp only [hd]
    cases elemOf t with
    | none => rfl
    | some p =>
      obtain ⟨e0, e⟩ := p
      cases intOf (eval σ l) with
      | none => rfl
      | some q => obtain ⟨k, n⟩ := q; simp only; simp only [mkF_fr (hfr hm)]; rfl
  | slice t x lo hi mx =>
    cases mx with
    | none => simp only [hd]; cases elemOf t <;> rfl
    | some m => simp [calm, hop] at hc
  | fieldAddr t x f => simp only [hd]; rfl
  | field t x f => simp only [hd]; rfl
  | indexAddr t x ix => simp only [hd]; rfl
  | extract t i => simp only [hd]; rfl
  | call c =>
    simp only [calm, hop, Bool.and_eq_true] at hc
    obtain ⟨_, hc⟩ := hc
    cases hcc : c.callee with
    | value fv =>
      cases fv with
      | func f =>
        have hm : makes o = true := by
          obtain ⟨dst, op, ty, pos, after, guard⟩ := o
          simp only at hop; subst hop
          obtain ⟨cal, args, at'⟩ := c
          simp only at hcc; subst hcc; rfl
        simp only [hcc, List.isEmpty_iff] at hc
        simp only [hcc, hd]
        have hcut : ∀ K' : St → Prop, cutA A c σ K' = K' σ := fun K' => by
          unfold cutA
          rw [hcc]
          cases c.args.toList with
          | nil => rfl
          | cons x xs =>
            cases x with
            | tmp t => simp only [hc, List.isEmpty_nil, Bool.not_true, Bool.and_false, Bool.false_and]; rfl
            | _ => rfl
        rw [hcut, mkF_fr (hfr hm)]
        by_cases hb : okD d = true
        · rw [if_pos hb, if_pos hb]
          show (match capsOf (.pv (.fn f []) []) with
            | some (f, caps) => callS A d f (c.args.toList.map (eval σ) ++ caps) σ K
            | none => False) = _
          simp only [capsOf, List.map_nil, List.append_nil]
          unfold callS
          simp only [hc, lendOk, if_true]
          cases optAll (toPV A σ) (c.args.toList.map (eval σ)) with
          | none => rfl
          | some ps =>
            simp only
            congr 1
            funext rs outs
            cases outs <;> rfl
        · rw [if_neg hb, if_neg hb]
      | _ => simp [hcc] at hc
    | builtin b => cases b <;> simp only [hd, hcc] <;> first | rfl | (simp [hcc] at hc)
    | invoke r m => simp [hcc] at hc
  | _ => simp [calm, hop] at hc

theorem calm_keep (hc : calm o = true) : keepOp o = none := by
  unfold calm at hc
  simp only [Bool.and_eq_true, Option.isNone_iff_eq_none] at hc
  exact hc.1.2
theorem aop_eq (hc : calm o = true) (hd : o.dst = some d) (hfr : makes o = true → ∀ id, cls id = d → Fr σ id) : aop A o σ K = aopN A o d σ (fun s fs => K (put (putFs σ fs) d s)) := by
  rw [← aopI_eq hc hd hfr]
  unfold aop keepA
  rw [calm_keep hc]

end Go.VAI

namespace Go.VAI
variable {A : Ar} {σ σ' : St} {d : Nat} {o : Oper}

/-- σ' is as σ in what o looks at. -/
structure Agree (o : Oper) (σ σ' : St) : Prop where
  ev : ∀ x ∈ o.op.operands, eval σ' x = eval σ x
  see : ∀ x ∈ o.op.operands, ∀ id ∈ seeS σ (eval σ x), σ'.files id = σ.files id

theorem map_eval_same {l : List Operand} (h : ∀ x ∈ l, eval σ' x = eval σ x) : l.map (eval σ') = l.map (eval σ) := List.map_congr_left h

theorem aopN_same (h : Agree o σ σ') {k : Slot → List (Nat × File) → Prop} : aopN A o d σ' k = aopN A o d σ k := by
  obtain ⟨ev, see⟩ := h
  unfold aopN
  cases hop : o.op with
  | move x => simp only; rw [ev x (by simp [hop, Op.operands])]
  | assign x => simp only; rw [ev x (by simp [hop, Op.operands])]
  | pick c x y => simp only; rw [ev c (by simp [hop, Op.operands]), ev x (by simp [hop, Op.operands]), ev y (by simp [hop, Op.operands])]
  | alloc t => rfl
  | box t x => simp only; rw [ev x (by simp [hop, Op.operands]), all_live_same (see x (by simp [hop, Op.operands]))]
  | build t ps =>
    simp only
    have h1 : ∀ p ∈ ps.toList, p.2 ∈ o.op.operands := fun p hp => by simp [hop, Op.operands]; exact ⟨p.1, by simpa using hp⟩
    cases tt t with
    | none => rfl
    | some i => simp only; rw [fillS_same (fun p hp => ev p.2 (h1 p hp)) (fun p hp => see p.2 (h1 p hp))]
  | buildSlice t n ps =>
    simp only
    have h1 : ∀ p ∈ ps.toList, p.2 ∈ o.op.operands := fun p hp => by simp [hop, Op.operands]; exact ⟨p.1, by simpa using hp⟩
    cases elemOf t with
    | none => rfl
    | some q =>
      obtain ⟨e0, e⟩ := q
      simp only
      rw [partsOf_same (fun p hp => ev p.2 (h1 p hp)) (fun p hp => see p.2 (h1 p hp))]
      have hrefs : (ps.toList.flatMap fun p => refs2 σ' (eval σ' p.2)) = ps.toList.flatMap fun p => refs2 σ (eval σ p.2) := flatMap_congr (fun p hp => by
        rw [ev p.2 (h1 p hp)]
        have := see p.2 (h1 p hp)
        cases hs : eval σ p.2 with
        | clo f ls => rfl
        | ag ls => rw [hs] at this; exact refs2_same (s := .ag ls) this
        | ref id o => rw [hs] at this; exact refs2_same (s := .ref id o) this
        | own id sub => rw [hs] at this; exact refs2_same (s := .own id sub) this
        | _ => rfl)
      rw [hrefs]
  | load t x =>
    simp only
    cases tt t with
    | none => rfl
    | some i => simp only; rw [ev x (by simp [hop, Op.operands]), loadS_same (see x (by simp [hop, Op.operands]))]
  | binOp op t x y t' => simp only; rw [ev x (by simp [hop, Op.operands]), ev y (by simp [hop, Op.operands])]
  | unOp op t x => simp only; rw [ev x (by simp [hop, Op.operands])]
  | convert t' t x => simp only; rw [ev x (by simp [hop, Op.operands])]
  | makeFunc fn first caps =>
    cases fn with
    | func f => simp only; rw [map_eval_same (fun x hx => ev x (by simp [hop, Op.operands]; right; simpa using hx))]
    | _ => rfl
  | makeSlice t l c => simp only; rw [ev l (by simp [hop, Op.operands])]
  | slice t x lo hi mx =>
    cases mx with
    | some y => rfl
    | none =>
      simp only
      cases elemOf t with
      | none => rfl
      | some q =>
        obtain ⟨e0, e⟩ := q
        simp only
        rw [ev x (by simp [hop, Op.operands]), sliceS_same (see x (by simp [hop, Op.operands])) (fun y hy => ev y (by subst hy; simp [hop, Op.operands])) (fun y hy => ev y (by subst hy; simp [hop, Op.operands]))]
  | fieldAddr t x f =>
    simp only
    rw [ev x (by simp [hop, Op.operands])]
    have : liveS σ' (eval σ x) = liveS σ (eval σ x) := by
      have hs := see x (by simp [hop, Op.operands])
      cases he : eval σ x with
      | pv r bs => cases r <;> rfl
      | own id sub => rw [he] at hs; exact liveS_same (s := .own id sub) hs
      | ref id o => rw [he] at hs; exact liveS_same (s := .ref id o) (fun i hi => hs i (by simp only [see1, List.mem_singleton] at hi; subst hi; simp [seeS, see2]))
      | rref id i o => rw [he] at hs; exact liveS_same (s := .rref id i o) hs
      | _ => rfl
    rw [this]
  | field t x f => simp only; rw [ev x (by simp [hop, Op.operands])]
  | indexAddr t x ix =>
    simp only
    cases elemOf t with
    | none => rfl
    | some q => obtain ⟨e0, e⟩ := q; simp only; rw [ev x (by simp [hop, Op.operands]), ev ix (by simp [hop, Op.operands]), indexAddrS_same (see x (by simp [hop, Op.operands]))]
  | extract x i => simp only; rw [ev x (by simp [hop, Op.operands])]
  | call c =>
    simp only
    have hargs : ∀ x ∈ c.args.toList, x ∈ o.op.operands := fun x hx => by simp [hop, Op.operands, Call.operands]; right; simpa using hx
    cases hcc : c.callee with
    | value fv =>
      cases fv with
      | func f =>
        simp only
        rw [map_eval_same (fun x hx => ev x (hargs x hx))]
        have h1 : optAll (toPV A σ') (c.args.toList.map (eval σ)) = optAll (toPV A σ) (c.args.toList.map (eval σ)) := optAll_congr (fun s hs => by
          obtain ⟨x, hx, rfl⟩ := List.mem_map.1 hs
          exact toPV_same (see x (hargs x hx)))
        rw [h1]
        cases hps : optAll (toPV A σ) (c.args.toList.map (eval σ)) with
        | none => rfl
        | some ps =>
          have h2 : (c.args.toList.map (eval σ)).flatMap (refsOf σ') = (c.args.toList.map (eval σ)).flatMap (refsOf σ) := flatMap_congr (fun s hs => by
            obtain ⟨r, hr⟩ := Option.isSome_iff_exists.1 (optAll_mem hps s hs)
            obtain ⟨x, hx, rfl⟩ := List.mem_map.1 hs
            exact refsOf_same hr (see x (hargs x hx)))
          rw [h2]
      | _ => rfl
    | builtin b =>
      cases b <;> first | rfl | skip
      · simp only
        cases hl : c.args.toList with
        | nil => rfl
        | cons x l =>
          cases l with
          | cons y l => rfl
          | nil =>
            cases c.argTypes.toList with
            | nil => rfl
            | cons t l => cases l with
              | cons y l => rfl
              | nil => simp only; rw [ev x (hargs x (by simp [hl])), lenS_same (see x (hargs x (by simp [hl])))]
      · simp only
        cases hl : c.args.toList with
        | nil => rfl
        | cons x l =>
          cases l with
          | nil => rfl
          | cons y l => cases l with
            | cons z l => rfl
            | nil => simp only; rw [ev x (hargs x (by simp [hl])), ev y (hargs y (by simp [hl]))]
      · simp only
        cases hl : c.args.toList with
        | nil => rfl
        | cons x l =>
          cases l with
          | nil => rfl
          | cons y l => cases l with
            | cons z l => rfl
            | nil => simp only; rw [ev x (hargs x (by simp [hl])), ev y (hargs y (by simp [hl]))]
    | invoke r m => rfl
  | _ => rfl

end Go.VAI

namespace Go.VAI
variable {P : Program} {σ σ' : St} {d : Nat} {o : Oper}

/-- One outcome of a calm operation, and what it speaks of. -/
def Ends (P : Program) (o : Oper) (d : Nat) (σ : St) (k : Slot → List (Nat × File) → Prop) : Prop :=
  ∃ s fs, k s fs ∧ (∀ k' : Slot → List (Nat × File) → Prop, k' s fs → aopN (stdA P) o d σ k') ∧ (∀ p ∈ fs, cls p.1 = d) ∧ (makes o = false → fs = []) ∧ ∀ id, cls id ≠ d → Fr σ id → nrS id s ∧ ∀ p ∈ fs, nrF2 id p.2

theorem nrS_leaf {id : Nat} {s : Slot} (hl : isLeaf s = true) (h : nr1 id s) : nrS id s := by
  cases s <;> first | exact h | exact trivial | simp [isLeaf] at hl

theorem nrS_pv {id : Nat} {r : PV} : nrS id (.pv r []) := by show id ∉ ([] : List Nat); simp

theorem nrS_mkpv {id : Nat} {r : PV} {bs : List Nat} (h : id ∉ bs) : nrS id (mkpv r bs) := by
  unfold mkpv
  show id ∉ _
  split
  · simp
  · exact h

theorem nr_eval {id : Nat} (h : Fr σ id) (x : Operand) : nrS id (eval σ x) := fresh_eval h.fresh x

/-- Each transformer that hands on one outcome. -/
theorem ends_leaf {k : Slot → List (Nat × File) → Prop} {s : Slot} (hk : k s []) (hT : ∀ k' : Slot → List (Nat × File) → Prop, k' s [] → aopN (stdA P) o d σ k') (hn : ∀ id, cls id ≠ d → Fr σ id → nrS id s) : Ends P o d σ k :=
  ⟨s, [], hk, hT, by simp, fun _ => rfl, fun id h1 h2 => ⟨hn id h1 h2, by simp⟩⟩

theorem ends_file {k : Slot → List (Nat × File) → Prop} {s : Slot} {f : File} (hm : makes o = true) (hd : cls d = d) (hk : k s [(d, f)]) (hT : ∀ k' : Slot → List (Nat × File) → Prop, k' s [(d, f)] → aopN (stdA P) o d σ k') (hn : ∀ id, cls id ≠ d → Fr σ id → nrS id s ∧ nrF2 id f) : Ends P o d σ k :=
  ⟨s, [(d, f)], hk, hT, by simpa using hd, (fun h => by rw [hm] at h; cases h), fun id h1 h2 => ⟨(hn id h1 h2).1, by simpa using (hn id h1 h2).2⟩⟩

theorem loadS_ends {t : TI} {a : Slot} {k : Slot → Prop} (h : loadS (stdA P) σ t a k) : ∃ s, k s ∧ (∀ k' : Slot → Prop, k' s → loadS (stdA P) σ t a k') ∧ ∀ id, Fr σ id → nrS id a → nrS id s := by
  unfold loadS at h ⊢
  split at h
  · rename_i i p
    split at h
    · rename_i ls hf
      split at h
      · rename_i hle
        split at h
        · rename_i s hs
          refine ⟨s, h, fun k' hk' => by simp only [if_pos hle]; exact hk', fun id hfr ha => ?_⟩
          have hls := hfr.files _ _ hf
          have hpt : ∀ x ∈ prt p t.size ls, nr2 id x := fun x hx => hls x (List.mem_of_mem_drop (List.mem_of_mem_take hx))
          unfold ofSleaves at hs
          split at hs
          · cases hs; exact fun x hx => nr2_1 (hpt x hx)
          · split at hs
            · rename_i x hx
              split at hs
              · rename_i hl; cases hs; exact nrS_leaf hl (nr2_1 (hpt _ (by rw [hx]; simp)))
              · cases hs
            · cases hs
        · exact h.elim
      · exact h.elim
    · exact h.elim
  · rename_i i ix p
    split at h
    · rename_i es sz u io hf
      obtain ⟨y, hy, h⟩ := h
      split at h
      · rename_i hle
        split at h
        · rename_i r hr
          refine ⟨_, h, fun k' hk' => ⟨y, hy, by simp only [if_pos hle, hr]; exact hk'⟩, fun id hfr ha => nrS_mkpv ?_⟩
          have h1 : i ≠ id := ha
          have h2 := hfr.files _ _ hf
          simp only [List.mem_cons, not_or]
          exact ⟨fun e => h1 e.symm, h2⟩
        · exact h.elim
      · exact h.elim
    · exact h.elim
  · rename_i ls bs
    split at h
    · rename_i hle
      split at h
      · rename_i r hr
        exact ⟨_, h, fun k' hk' => by simp only [if_pos hle]; exact hk', fun id hfr ha => nrS_mkpv ha⟩
      · exact h.elim
    · exact h.elim
  · exact h.elim

theorem binS_ends {op : BinOp} {t : Nat} {x y : Slot} {k : PV → Prop} (h : binS (stdA P) op t x y k) : ∃ r, k r ∧ ∀ k' : PV → Prop, k' r → binS (stdA P) op t x y k' := by
  unfold binS at h ⊢
  split at h
  · rename_i kx m ky n hx hy
    cases op <;> simp only [stdA] at h ⊢ <;> first
      | exact h.elim
      | (split at h
         · rename_i hk; exact ⟨_, h, fun k' hk' => by rw [if_pos hk]; exact hk'⟩
         · exact h.elim)
      | (split at h
         · rename_i hk; exact ⟨_, h.2, fun k' hk' => by rw [if_pos hk]; exact ⟨h.1, hk'⟩⟩
         · exact h.elim)
      | exact ⟨_, h.2, fun k' hk' => ⟨h.1, hk'⟩⟩
  · split at h
    · split at h
      · rename_i hb
        cases op <;> simp only at h ⊢ <;> first | exact h.elim | exact ⟨_, h, fun k' hk' => by rw [if_pos hb]; exact hk'⟩
      · exact h.elim
    · split at h
      · rename_i hq
        split at h
        · split at h
          · rename_i hl
            split at h
            · rename_i r hr
              cases op <;> simp only at h ⊢ <;> first | exact h.elim | exact ⟨_, h, fun k' hk' => by rw [if_pos hq, if_pos hl]; exact hk'⟩
            · exact h.elim
          · exact h.elim
        · exact h.elim
      · exact h.elim

theorem convS_ends {t : Nat} {x : Slot} {k : PV → Prop} (h : convS (stdA P) t x k) : ∃ r, k r ∧ ∀ k' : PV → Prop, k' r → convS (stdA P) t x k' := by
  unfold convS at h ⊢
  split at h
  · exact ⟨_, h, fun k' hk' => hk'⟩
  · exact h.elim

theorem unS_ends {op : UnOp} {x : Slot} {k : PV → Prop} (h : unS (stdA P) op x k) : ∃ r, k r ∧ ∀ k' : PV → Prop, k' r → unS (stdA P) op x k' := by
  unfold unS at h ⊢
  split at h
  · exact ⟨_, h, fun k' hk' => hk'⟩
  · exact ⟨_, h, fun k' hk' => hk'⟩
  · exact h.elim

end Go.VAI

namespace Go.VAI
variable {P : Program} {σ σ' : St} {d : Nat} {o : Oper}

theorem bound_ends {x : Option Operand} {n : Nat} {K : Nat → Prop} (h : bound σ (stdA P) x n K) : ∃ m, K m ∧ ∀ K' : Nat → Prop, K' m → bound σ (stdA P) x n K' := by
  unfold bound at h ⊢
  cases x with
  | none => exact ⟨n, h, fun _ h => h⟩
  | some y =>
    simp only at h ⊢
    split at h
    · exact ⟨_, h.2, fun K' hK' => ⟨h.1, hK'⟩⟩
    · exact h.elim

theorem sliceS_ends {e : TI} {x : Slot} {lo hi : Option Operand} {k : Slot → Prop} (h : sliceS (stdA P) σ e x lo hi k) : ∃ s, k s ∧ (∀ k' : Slot → Prop, k' s → sliceS (stdA P) σ e x lo hi k') ∧ ∀ id, nrS id x → nrS id s := by
  unfold sliceS at h ⊢
  split at h
  · rename_i i sub
    split at h
    · rename_i es sz u io hf
      split at h
      · rename_i hs
        cases sub with
        | none =>
          obtain ⟨m, h, hm⟩ := bound_ends h
          obtain ⟨m', h, hm'⟩ := bound_ends h
          exact ⟨_, h.2.2, fun k' hk' => by simp only [if_pos hs]; exact hm _ (hm' _ ⟨h.1, h.2.1, hk'⟩), fun id hn => hn⟩
        | some p =>
          obtain ⟨o0, n⟩ := p
          obtain ⟨m, h, hm⟩ := bound_ends h
          obtain ⟨m', h, hm'⟩ := bound_ends h
          exact ⟨_, h.2.2, fun k' hk' => by simp only [if_pos hs]; exact hm _ (hm' _ ⟨h.1, h.2.1, hk'⟩), fun id hn => hn⟩
      · exact h.elim
    · exact h.elim
  · rename_i es bs
    obtain ⟨hw, h⟩ := h
    obtain ⟨m, h, hm⟩ := bound_ends h
    obtain ⟨m', h, hm'⟩ := bound_ends h
    exact ⟨_, h.2.2, fun k' hk' => ⟨hw, hm _ (hm' _ ⟨h.1, h.2.1, hk'⟩)⟩, fun id hn => hn⟩
  · obtain ⟨m, h, hm⟩ := bound_ends h
    obtain ⟨m', h, hm'⟩ := bound_ends h
    exact ⟨_, h.2.2, fun k' hk' => hm _ (hm' _ ⟨h.1, h.2.1, hk'⟩), fun id _ => by show id ∉ ([] : List Nat); simp⟩
  · exact h.elim

theorem indexAddrS_ends {e : TI} {x i : Slot} {k : Slot → Prop} (h : indexAddrS (stdA P) σ e x i k) : ∃ s, k s ∧ (∀ k' : Slot → Prop, k' s → indexAddrS (stdA P) σ e x i k') ∧ ∀ id, nrS id x → nrS id s := by
  unfold indexAddrS at h ⊢
  split at h
  · obtain ⟨h0, h⟩ := h
    split at h
    · split at h
      · split at h
        · rename_i hs
          rename_i sub _ _ _ _ _ _
          cases sub with
          | none => obtain ⟨y, hy, h⟩ := h; exact ⟨_, h, fun k' hk' => ⟨h0, by simp only [if_pos hs]; exact ⟨y, hy, hk'⟩⟩, fun id hn => hn⟩
          | some p => obtain ⟨o0, l⟩ := p; obtain ⟨y, hy, h⟩ := h; exact ⟨_, h, fun k' hk' => ⟨h0, by simp only [if_pos hs]; exact ⟨y, hy, hk'⟩⟩, fun id hn => hn⟩
        · exact h.elim
      · exact h.elim
    · obtain ⟨y, hy, h⟩ := h
      split at h
      · rename_i hl
        exact ⟨_, h, fun k' hk' => ⟨h0, y, hy, by simp only [if_pos hl]; exact hk'⟩, fun id hn => hn⟩
      · exact h.elim
    · exact h.elim
  · exact h.elim

theorem nr_sl {id : Nat} {s : Slot} (h : nrS id s) : ∀ t ∈ sleaves s, nr1 id t := nr_sleaves h

theorem fillS_nr {t : TI} {id : Nat} (hfr : Fr σ id) : ∀ {ps : List (Nat × Operand)} {acc ls : List Slot}, fillS t σ ps acc = some ls → (∀ s ∈ acc, nr1 id s) → ∀ s ∈ ls, nr1 id s
  | [], acc, ls, h, ha => by simp [fillS] at h; subst h; exact ha
  | (i, x) :: ps, acc, ls, h, ha => by
    simp only [fillS] at h
    split at h
    · split at h
      · split at h
        · refine fillS_nr hfr h (fun s hs => ?_)
          unfold splice at hs
          simp only [List.mem_append] at hs
          rcases hs with (hs | hs) | hs
          · exact ha s (List.mem_of_mem_take hs)
          · exact nr_sl (nr_eval hfr x) s hs
          · exact ha s (List.mem_of_mem_drop hs)
        · cases h
      · cases h
    · cases h

theorem adopt1_nr {bs : List Nat} {id c : Nat} (hc : cls id ≠ d) (hd : d < 4096) (hb : id ∉ bs) (r : RS) : nr1 id (adopt1 d bs c r).1 ∧ isLeaf (adopt1 d bs c r).1 = true ∧ ∀ p ∈ (adopt1 d bs c r).2.1, cls p.1 = d ∧ nrF2 id p.2 := by
  have hcl : ∀ c, cls (d + 4096 * c) = d := fun c => by simp only [cls]; omega
  have hne : ∀ c, d + 4096 * c ≠ id := fun c e => hc (by rw [← e]; exact hcl c)
  cases r with
  | pv r => 
    refine ⟨?_, rfl, by simp [adopt1]⟩
    show id ∉ (if isFree r then [] else bs)
    split
    · simp
    · exact hb
  | row es sz u =>
    cases u with
    | free => exact ⟨hne c, rfl, by simp [adopt1, hcl, nrF2, rubs]⟩
    | sh b => exact ⟨hne c, rfl, by simp [adopt1, hcl, nrF2, rubs, hb]⟩
  | ag ls => exact ⟨trivial, rfl, by simp [adopt1]⟩
  | tup ls => exact ⟨trivial, rfl, by simp [adopt1]⟩
  | vw p o l => exact ⟨trivial, rfl, by simp [adopt1]⟩

theorem adoptL_nr {f : Nat → RS → Slot × List (Nat × File) × Nat} {Q : Slot → Prop} {R : Nat × File → Prop} (hf : ∀ c r, Q (f c r).1 ∧ ∀ p ∈ (f c r).2.1, R p) : ∀ (ls : List RS) (c : Nat), (∀ s ∈ (adoptL f c ls).1, Q s) ∧ ∀ p ∈ (adoptL f c ls).2.1, R p
  | [], c => by simp [adoptL]
  | x :: xs, c => by
    obtain ⟨h1, h2⟩ := hf c x
    obtain ⟨h3, h4⟩ := adoptL_nr hf xs (f c x).2.2
    refine ⟨fun s hs => ?_, fun p hp => ?_⟩
    · have hs' : s ∈ (f c x).1 :: (adoptL f (f c x).2.2 xs).1 := hs
      rcases List.mem_cons.1 hs' with rfl | hs'
      · exact h1
      · exact h3 s hs'
    · have hp' : p ∈ (f c x).2.1 ++ (adoptL f (f c x).2.2 xs).2.1 := hp
      rcases List.mem_append.1 hp' with hp' | hp'
      · exact h2 p hp'
      · exact h4 p hp'

theorem adopt2_nr {bs : List Nat} {id c : Nat} (hc : cls id ≠ d) (hd : d < 4096) (hb : id ∉ bs) (r : RS) : (nr2 id (adopt2 d bs c r).1 ∧ ∀ ls, (adopt2 d bs c r).1 ≠ .tup ls) ∧ ∀ p ∈ (adopt2 d bs c r).2.1, cls p.1 = d ∧ nrF2 id p.2 := by
  have one : ∀ r, (∀ ls, r ≠ RS.ag ls) → (nr2 id (adopt1 d bs c r).1 ∧ ∀ ls, (adopt1 d bs c r).1 ≠ .tup ls) ∧ ∀ p ∈ (adopt1 d bs c r).2.1, cls p.1 = d ∧ nrF2 id p.2 := by
    intro r _
    obtain ⟨h1, h2, h3⟩ := adopt1_nr (c := c) hc hd hb r
    exact ⟨⟨nr2_of_S (nrS_leaf h2 h1), fun ls e => by rw [e] at h2; cases h2⟩, h3⟩
  cases r with
  | ag ls =>
    obtain ⟨h1, h2⟩ := adoptL_nr (f := adopt1 d bs) (Q := nr1 id) (R := fun p => cls p.1 = d ∧ nrF2 id p.2) (fun c r => let ⟨a, _, b⟩ := adopt1_nr (c := c) hc hd hb r; ⟨a, b⟩) ls c
    exact ⟨⟨h1, fun ls' e => by cases e⟩, h2⟩
  | pv r => exact one (.pv r) (by simp)
  | row es sz u => exact one (.row es sz u) (by simp)
  | tup ls => exact one (.tup ls) (by simp)
  | vw p o l => exact one (.vw p o l) (by simp)

theorem adopt_nr {bs : List Nat} {id : Nat} (hc : cls id ≠ d) (hd : d < 4096) (hb : id ∉ bs) (r : RS) : nrS id (adopt d bs r).1 ∧ ∀ p ∈ (adopt d bs r).2, cls p.1 = d ∧ nrF2 id p.2 := by
  cases r with
  | tup ls =>
    obtain ⟨h1, h2⟩ := adoptL_nr (f := adopt2 d bs) (Q := nr2 id) (R := fun p => cls p.1 = d ∧ nrF2 id p.2) (fun c r => let ⟨a, b⟩ := adopt2_nr (c := c) hc hd hb r; ⟨a.1, b⟩) ls 0
    exact ⟨h1, h2⟩
  | pv r => obtain ⟨⟨h1, h3⟩, h2⟩ := adopt2_nr (c := 0) hc hd hb (.pv r); exact ⟨nrS_of2 h3 h1, h2⟩
  | row es sz u => obtain ⟨⟨h1, h3⟩, h2⟩ := adopt2_nr (c := 0) hc hd hb (.row es sz u); exact ⟨nrS_of2 h3 h1, h2⟩
  | ag ls => obtain ⟨⟨h1, h3⟩, h2⟩ := adopt2_nr (c := 0) hc hd hb (.ag ls); exact ⟨nrS_of2 h3 h1, h2⟩
  | vw p o l => obtain ⟨⟨h1, h3⟩, h2⟩ := adopt2_nr (c := 0) hc hd hb (.vw p o l); exact ⟨nrS_of2 h3 h1, h2⟩

end Go.VAI

namespace Go.VAI
variable {P : Program} {σ σ' : St} {d : Nat} {o : Oper}

theorem ne_of_cls {id : Nat} (h : cls id ≠ d) (hd : d < 4096) : d ≠ id := fun e => h (by rw [← e]; exact cls_lt hd)

theorem adopt_cls {bs : List Nat} (hd : d < 4096) (r : RS) : ∀ p ∈ (adopt d bs r).2, cls p.1 = d := by
  have hcl : ∀ c, cls (d + 4096 * c) = d := fun c => by simp only [cls]; omega
  have h1 : ∀ c r, True ∧ ∀ p ∈ (adopt1 d bs c r).2.1, cls p.1 = d := by
    intro c r
    cases r with
    | row es sz u => cases u <;> simp [adopt1, hcl]
    | _ => simp [adopt1]
  have h2 : ∀ c r, True ∧ ∀ p ∈ (adopt2 d bs c r).2.1, cls p.1 = d := by
    intro c r
    cases r with
    | ag ls => exact ⟨trivial, (adoptL_nr (f := adopt1 d bs) (Q := fun _ => True) (R := fun p => cls p.1 = d) h1 ls c).2⟩
    | pv r => exact h1 c (.pv r)
    | row es sz u => exact h1 c (.row es sz u)
    | tup ls => exact h1 c (.tup ls)
    | vw p o l => exact h1 c (.vw p o l)
  cases r with
  | tup ls => exact (adoptL_nr (f := adopt2 d bs) (Q := fun _ => True) (R := fun p => cls p.1 = d) h2 ls 0).2
  | pv r => exact (h2 0 (.pv r)).2
  | row es sz u => exact (h2 0 (.row es sz u)).2
  | ag ls => exact (h2 0 (.ag ls)).2
  | vw p o l => exact (h2 0 (.vw p o l)).2

theorem refsOf_nr {A : Ar} {id : Nat} (hf : Fr σ id) {s : Slot} (hs : nrS id s) {r : PV} (hp : toPV A σ s = some r) : id ∉ refsOf σ s := by
  cases s with
  | clo f ls =>
    simp only [toPV] at hp
    split at hp
    · rename_i hall
      simp only [refsOf, List.mem_flatMap, not_exists, not_and]
      intro x hx
      exact fresh_refs2 hf.fresh (nr2_of_S (nrS_leaf (List.all_eq_true.1 hall x hx) (hs x hx)))
    · cases hp
  | ag ls => exact fresh_refs2 hf.fresh (s := .ag ls) hs
  | pv r b0 => exact fresh_refs2 hf.fresh (s := .pv r b0) hs
  | own i sub => exact fresh_refs2 hf.fresh (s := .own i sub) hs
  | ref i o => exact fresh_refs2 hf.fresh (s := .ref i o) hs
  | rref i x o => exact fresh_refs2 hf.fresh (s := .rref i x o) hs
  | tup ls => simp [refsOf, refs2, refs1]
  | undef => simp [refsOf, refs2, refs1]
  | dead => simp [refsOf, refs2, refs1]

theorem aopN_ends {k : Slot → List (Nat × File) → Prop} (h : aopN (stdA P) o d σ k) : Ends P o d σ k := by
  have hok : ∀ {X : Prop}, (if okD d then X else False) → okD d = true := by
    intro X hx
    split at hx
    · assumption
    · exact hx.elim
  have blt : ∀ {X : Prop}, (if okD d then X else False) → (d < 4096 ∧ okD d = true) ∧ X := by
    intro X hx
    split at hx
    · rename_i hb; exact ⟨⟨(okD_lt hb).2, hb⟩, hx⟩
    · exact hx.elim
  have bl : ∀ {X : Prop}, okD d = true → X → (if okD d then X else False) := by
    intro X hd hx
    rw [if_pos hd]; exact hx
  have mv : ∀ x, (o.op = .move x ∨ o.op = .assign x) → (∀ k, aopN (stdA P) o d σ k = (if isNilSl x then (match elemOf o.type with
      | some (_, e) => if okD d then k (.own d none) [(d, .row [] e.size .free false)] else False
      | none => False) else k (eval σ x) [])) → Ends P o d σ k := by
    intro x hop he
    rw [he] at h
    by_cases hx : isNilSl x = true
    · rw [if_pos hx] at h
      have hm : makes o = true := by
        obtain ⟨dst, op, ty, pos, after, guard⟩ := o
        rcases hop with hop | hop <;> (simp only at hop; subst hop; exact hx)
      cases hel : elemOf o.type with
      | none => rw [hel] at h; exact h.elim
      | some p =>
        obtain ⟨e0, e⟩ := p
        rw [hel] at h
        obtain ⟨⟨hd, hd'⟩, h⟩ := blt h
        exact ends_file hm (cls_lt hd) h (fun k' hk' => by rw [he, if_pos hx, hel]; exact bl hd' hk') (fun id h1 h2 => ⟨ne_of_cls h1 hd, by simp [nrF2, rubs]⟩)
    · rw [if_neg hx] at h
      exact ends_leaf h (fun k' hk' => by rw [he, if_neg hx]; exact hk') (fun id _ h2 => nr_eval h2 x)
  cases hop : o.op with
  | move x => exact mv x (.inl hop) (fun k => by unfold aopN; rw [hop]; rfl)
  | assign x => exact mv x (.inr hop) (fun k => by unfold aopN; rw [hop]; rfl)
  | pick c x y =>
    have he : ∀ k, aopN (stdA P) o d σ k = _ := fun k => by unfold aopN; rw [hop]
    rw [he] at h
    simp only at h
    split at h
    · rename_i t ht
      split at h
      · exact ends_leaf h (fun k' hk' => by rw [he]; simp only [ht]; exact hk') (fun id _ h2 => nr_eval h2 x)
      · exact ends_leaf h (fun k' hk' => by rw [he]; simp only [ht]; exact hk') (fun id _ h2 => nr_eval h2 y)
    · exact h.elim
  | alloc t =>
    have hm : makes o = true := by obtain ⟨dst, op, ty, pos, after, guard⟩ := o; simp only at hop; subst hop; rfl
    have he : ∀ k, aopN (stdA P) o d σ k = _ := fun k => by unfold aopN; rw [hop]
    rw [he] at h
    simp only at h
    split at h
    · rename_i i ht
      obtain ⟨⟨hd, hd'⟩, h⟩ := blt h
      refine ends_file hm (cls_lt hd) h (fun k' hk' => by rw [he]; simp only [ht]; exact bl hd' hk') (fun id h1 h2 => ⟨ne_of_cls h1 hd, fun s hs => ?_⟩)
      obtain ⟨x, _, rfl⟩ := List.mem_map.1 hs
      show id ∉ ([] : List Nat); simp
    · exact h.elim
  | box t x =>
    have hm : makes o = true := by obtain ⟨dst, op, ty, pos, after, guard⟩ := o; simp only at hop; subst hop; rfl
    have he : ∀ k, aopN (stdA P) o d σ k = _ := fun k => by unfold aopN; rw [hop]
    rw [he] at h
    simp only at h
    split at h
    · rename_i i ht
      obtain ⟨⟨hd, hd'⟩, h⟩ := blt h
      split at h
      · rename_i hl
        refine ends_file hm (cls_lt hd) h (fun k' hk' => by rw [he]; simp only [ht, if_pos hl]; exact bl hd' hk') (fun id h1 h2 => ⟨ne_of_cls h1 hd, fun s hs => ?_⟩)
        have h3 := nr_sl (nr_eval h2 x) s hs
        have h4 := List.all_eq_true.1 hl.2 s hs
        cases s <;> first | exact h3 | simp [liveS] at h4 | exact trivial
      · exact h.elim
    · exact h.elim
  | build t ps =>
    have he : ∀ k, aopN (stdA P) o d σ k = _ := fun k => by unfold aopN; rw [hop]
    rw [he] at h
    simp only at h
    split at h
    · rename_i i ht
      split at h
      · rename_i ls hls
        split at h
        · rename_i hag
          refine ends_leaf h (fun k' hk' => by rw [he]; simp only [ht, hls, if_pos hag]; exact hk') (fun id _ h2 => ?_)
          exact fillS_nr h2 hls (fun s hs => by obtain ⟨x, _, rfl⟩ := List.mem_map.1 hs; show id ∉ ([] : List Nat); simp)
        · exact h.elim
      · exact h.elim
    · exact h.elim
  | buildSlice t n ps =>
    have hm : makes o = true := by obtain ⟨dst, op, ty, pos, after, guard⟩ := o; simp only at hop; subst hop; rfl
    have he : ∀ k, aopN (stdA P) o d σ k = _ := fun k => by unfold aopN; rw [hop]
    rw [he] at h
    simp only at h
    split at h
    · rename_i e0 e ht
      split at h
      · rename_i hn
        obtain ⟨⟨hd, hd'⟩, h⟩ := blt h
        split at h
        · rename_i es hes
          refine ends_file hm (cls_lt hd) h (fun k' hk' => by rw [he]; simp only [ht, if_pos hn, hes]; exact bl hd' hk') (fun id h1 h2 => ⟨ne_of_cls h1 hd, rub_join (by simp [rubs]) ?_⟩)
          simp only [List.mem_flatMap, not_exists, not_and]
          exact fun y _ => fresh_refs2 h2.fresh (nr2_of_S (nr_eval h2 y.2))
        · exact h.elim
      · exact h.elim
    · exact h.elim
  | load t x =>
    have he : ∀ k, aopN (stdA P) o d σ k = _ := fun k => by unfold aopN; rw [hop]
    rw [he] at h
    simp only at h
    split at h
    · rename_i i ht
      obtain ⟨s, h1, h2, h3⟩ := loadS_ends h
      exact ends_leaf h1 (fun k' hk' => by rw [he]; simp only [ht]; exact h2 _ hk') (fun id _ hf => h3 id hf (nr_eval hf x))
    · exact h.elim
  | binOp op t x y t' =>
    have he : ∀ k, aopN (stdA P) o d σ k = _ := fun k => by unfold aopN; rw [hop]
    rw [he] at h
    obtain ⟨r, h1, h2⟩ := binS_ends h
    exact ends_leaf h1 (fun k' hk' => by rw [he]; exact h2 _ hk') (fun id _ _ => nrS_pv)
  | unOp op t x =>
    have he : ∀ k, aopN (stdA P) o d σ k = _ := fun k => by unfold aopN; rw [hop]
    rw [he] at h
    obtain ⟨r, h1, h2⟩ := unS_ends h
    exact ends_leaf h1 (fun k' hk' => by rw [he]; exact h2 _ hk') (fun id _ _ => nrS_pv)
  | convert t' t x =>
    have he : ∀ k, aopN (stdA P) o d σ k = _ := fun k => by unfold aopN; rw [hop]
    rw [he] at h
    simp only at h
    split at h
    · rename_i i ht
      obtain ⟨r, h1, h2⟩ := convS_ends h
      exact ends_leaf h1 (fun k' hk' => by rw [he]; simp only [ht]; exact h2 _ hk') (fun id _ _ => nrS_pv)
    · exact h.elim
  | makeFunc fn first caps =>
    cases fn with
    | func f =>
      have he : ∀ k, aopN (stdA P) o d σ k = _ := fun k => by unfold aopN; rw [hop]
      rw [he] at h
      simp only at h
      split at h
      · rename_i hf
        refine ends_leaf h (fun k' hk' => by rw [he]; simp only [if_pos hf]; exact hk') (fun id _ h2 => ?_)
        intro s hs
        obtain ⟨x, _, rfl⟩ := List.mem_map.1 hs
        exact nr2_1 (nr2_of_S (nr_eval h2 x))
      · exact h.elim
    | _ => unfold aopN at h; rw [hop] at h; exact h.elim
  | makeSlice t l c =>
    have hm : makes o = true := by obtain ⟨dst, op, ty, pos, after, guard⟩ := o; simp only at hop; subst hop; rfl
    have he : ∀ k, aopN (stdA P) o d σ k = _ := fun k => by unfold aopN; rw [hop]
    rw [he] at h
    simp only at h
    split at h
    · rename_i e0 e k0 n ht hn
      split at h
      · rename_i hs
        split at h
        · rename_i z hz
          obtain ⟨h0, hf, h⟩ := h
          obtain ⟨⟨hd, hd'⟩, h⟩ := blt h
          exact ends_file hm (cls_lt hd) h (fun k' hk' => by rw [he]; simp only [ht, hn, if_pos hs, hz]; exact ⟨h0, hf, bl hd' hk'⟩) (fun id h1 h2 => ⟨ne_of_cls h1 hd, by simp [nrF2, rubs]⟩)
        · exact h.elim
      · exact h.elim
    · exact h.elim
  | slice t x lo hi mx =>
    have he : ∀ k, aopN (stdA P) o d σ k = _ := fun k => by unfold aopN; rw [hop]
    rw [he] at h
    simp only at h
    split at h
    · rename_i e0 e hmx ht
      obtain ⟨s, h1, h2, h3⟩ := sliceS_ends h
      exact ends_leaf h1 (fun k' hk' => by rw [he]; simp only [ht]; exact h2 _ hk') (fun id _ hf => h3 id (nr_eval hf x))
    · exact h.elim
  | fieldAddr t x f =>
    have he : ∀ k, aopN (stdA P) o d σ k = _ := fun k => by unfold aopN; rw [hop]
    rw [he] at h
    simp only at h
    split at h
    · rename_i i ht
      split at h
      · rename_i hl
        split at h
        · rename_i s hs
          refine ends_leaf h (fun k' hk' => by rw [he]; simp only [ht, if_pos hl, hs]; exact hk') (fun id _ h2 => ?_)
          have hx := nr_eval h2 x
          unfold fieldAddrS at hs
          split at hs
          · split at hs
            · split at hs
              · cases hs
              · split at hs
                · rename_i hq; cases hs; rw [hq] at hx; exact hx
                · rename_i hq; cases hs; rw [hq] at hx; exact hx
                · rename_i hq; split at hs
                  · cases hs; rw [hq] at hx; exact hx
                  · cases hs
                · cases hs
            · cases hs
          · cases hs
        · exact h.elim
      · exact h.elim
    · exact h.elim
  | field t x f =>
    have he : ∀ k, aopN (stdA P) o d σ k = _ := fun k => by unfold aopN; rw [hop]
    rw [he] at h
    simp only at h
    split at h
    · rename_i i ht
      split at h
      · rename_i s hs
        refine ends_leaf h (fun k' hk' => by rw [he]; simp only [ht, hs]; exact hk') (fun id _ h2 => ?_)
        have hx := nr_eval h2 x
        unfold fieldS at hs
        split at hs
        · split at hs
          · split at hs
            · rename_i ls hq
              rw [hq] at hx
              split at hs
              · have hp : ∀ (a b : Nat), ∀ y ∈ prt a b ls, nr1 id y := fun a b y hy => hx y (List.mem_of_mem_drop (List.mem_of_mem_take hy))
                unfold ofSleaves at hs
                split at hs
                · cases hs; exact hp _ _
                · split at hs
                  · rename_i y hy
                    split at hs
                    · rename_i hl; cases hs; exact nrS_leaf hl (hp _ _ _ (by rw [hy]; simp))
                    · cases hs
                  · cases hs
              · cases hs
            · rename_i ls bs hq
              rw [hq] at hx
              split at hs
              · split at hs
                · cases hs; exact nrS_mkpv hx
                · cases hs
              · cases hs
            · cases hs
          · cases hs
        · cases hs
      · exact h.elim
    · exact h.elim
  | indexAddr t x ix =>
    have he : ∀ k, aopN (stdA P) o d σ k = _ := fun k => by unfold aopN; rw [hop]
    rw [he] at h
    simp only at h
    split at h
    · rename_i e0 e ht
      obtain ⟨s, h1, h2, h3⟩ := indexAddrS_ends h
      exact ends_leaf h1 (fun k' hk' => by rw [he]; simp only [ht]; exact h2 _ hk') (fun id _ hf => h3 id (nr_eval hf x))
    · exact h.elim
  | extract x i =>
    have he : ∀ k, aopN (stdA P) o d σ k = _ := fun k => by unfold aopN; rw [hop]
    rw [he] at h
    simp only at h
    split at h
    · rename_i ls hl
      split at h
      · rename_i s hs
        split at h
        · exact h.elim
        · rename_i hnt
          refine ends_leaf h (fun k' hk' => by rw [he]; simp only [hl, hs, if_neg hnt]; exact hk') (fun id _ h2 => ?_)
          have hx := nr_eval h2 x
          rw [hl] at hx
          have := hx s (List.mem_of_getElem? hs)
          exact nrS_of2 (fun ls' e => hnt (by rw [e]; rfl)) this
      · exact h.elim
    · exact h.elim
  | call c =>
    have he : ∀ k, aopN (stdA P) o d σ k = _ := fun k => by unfold aopN; rw [hop]
    rw [he] at h
    simp only at h
    split at h
    · rename_i f hcc
      have hm : makes o = true := by
        obtain ⟨dst, op, ty, pos, after, guard⟩ := o
        simp only at hop; subst hop
        obtain ⟨cal, args, at'⟩ := c
        simp only at hcc; subst hcc; rfl
      obtain ⟨⟨hd, hd'⟩, h⟩ := blt h
      split at h
      · rename_i ps hps
        obtain ⟨hcal, rs, outs, h, hdoes⟩ := h
        split at h
        · rename_i hout
          have hbs : ∀ id, Fr σ id → id ∉ (c.args.toList.map (eval σ)).flatMap (refsOf σ) := by
            intro id h2 hm'
            obtain ⟨s, hs, hm'⟩ := List.mem_flatMap.1 hm'
            obtain ⟨x, _, rfl⟩ := List.mem_map.1 hs
            obtain ⟨r, hr⟩ := Option.isSome_iff_exists.1 (optAll_mem hps _ hs)
            exact refsOf_nr h2 (nr_eval h2 x) hr hm'
          refine ⟨(adopt d ((c.args.toList.map (eval σ)).flatMap (refsOf σ)) rs).1, (adopt d ((c.args.toList.map (eval σ)).flatMap (refsOf σ)) rs).2, h, fun k' hk' => ?_, fun p hp => ?_, (fun hh => by rw [hm] at hh; cases hh), fun id h1 h2 => ?_⟩
          · rw [he]; simp only [hcc, hps]; exact bl hd' ⟨hcal, rs, outs, by simp only [if_pos hout]; exact hk', hdoes⟩
          · exact adopt_cls hd _ p hp
          · obtain ⟨q1, q2⟩ := adopt_nr h1 hd (hbs id h2) rs
            exact ⟨q1, fun p hp => (q2 p hp).2⟩
        · exact h.elim
      · exact h.elim
    · rename_i hcc
      split at h
      · rename_i x t hx ht
        split at h
        · rename_i e n h1 h2
          exact ends_leaf h (fun k' hk' => by rw [he]; simp only [hcc, hx, ht, h1, h2]; exact hk') (fun id _ _ => nrS_pv)
        · exact h.elim
      · exact h.elim
    · rename_i hcc
      split at h
      · rename_i x y hx
        split at h
        · rename_i k1 m k2 n h1 h2
          split at h
          · rename_i hk
            exact ends_leaf h (fun k' hk' => by rw [he]; simp only [hcc, hx, h1, h2, if_pos hk]; exact hk') (fun id _ _ => nrS_pv)
          · exact h.elim
        · exact h.elim
      · exact h.elim
    · rename_i hcc
      split at h
      · rename_i x y hx
        split at h
        · rename_i k1 m k2 n h1 h2
          split at h
          · rename_i hk
            exact ends_leaf h (fun k' hk' => by rw [he]; simp only [hcc, hx, h1, h2, if_pos hk]; exact hk') (fun id _ _ => nrS_pv)
          · exact h.elim
        · exact h.elim
      · exact h.elim
    · exact h.elim
  | _ => unfold aopN at h; rw [hop] at h; exact h.elim

end Go.VAI

namespace Go.VAI
variable {P : Program} {E : Env} {σ σ' : St} {d : Nat} {o : Oper}

theorem fr_putFs {id : Nat} : ∀ {fs : List (Nat × File)} {σ : St}, Fr σ id → (∀ p ∈ fs, nrF2 id p.2) → (∀ p ∈ fs, p.1 ≠ id) → Fr (putFs σ fs) id
  | [], σ, h, _, _ => h
  | (i, f) :: fs, σ, h, h1, h2 => by
    refine fr_putFs (σ := putF σ i f) ⟨h.slots, fun j g hj => ?_, ?_⟩ (fun p hp => h1 p (by simp [hp])) (fun p hp => h2 p (by simp [hp]))
    · rcases putF_files.1 hj with ⟨_, e⟩ | ⟨_, hj⟩
      · subst e; exact h1 (i, f) (by simp)
      · exact h.files j g hj
    · cases hq : (putF σ i f).files id with
      | none => rfl
      | some g =>
        rcases putF_files.1 hq with ⟨e, _⟩ | ⟨_, hj⟩
        · exact absurd e.symm (h2 (i, f) (by simp))
        · rw [h.none] at hj; cases hj

theorem fr_put {id : Nat} {s : Slot} (h : Fr σ id) (hs : nrS id s) : Fr (put σ d s) id := by
  refine ⟨fun k => ?_, h.files, h.none⟩
  show nrS id (upd σ.slots d s k)
  unfold upd
  split
  · exact hs
  · exact h.slots k

/-! ### Regions in any order, told of states -/

def aopAt (A : Ar) (ops : Array Oper) (i : Nat) (σ : St) (K : St → Prop) : Prop := match ops[i]? with
  | some o => aopG A ops o σ K
  | none => K σ

def aany (A : Ar) (ops : Array Oper) : Nat → Array Bool → St → (St → Prop) → Prop
  | 0, listed, σ, K => Region.ready .any ops listed = [] ∧ K σ
  | fuel + 1, listed, σ, K => (Region.ready .any ops listed = [] → K σ) ∧ ∀ i ∈ Region.ready .any ops listed, aopAt A ops i σ (fun σ' => aany A ops fuel (listed.setIfInBounds i true) σ' K)

theorem aany_ok (hT : TTok P) {ops : Array Oper} {Q : Exit → Act → World → Prop} {K : St → Prop} (hQ : ∀ a w, Nx E K a w → Q .normal a w) : ∀ (fuel : Nat) (listed : Array Bool) {M : Mp} {σ : St} {a : Act} {w : World}, G E M σ a w → aany (stdA P) ops fuel listed σ K → wpAny P .any ops Q fuel listed a w
  | 0, listed, M, σ, a, w, hg, h => ⟨h.1, hQ _ _ ⟨M, σ, hg, h.2⟩⟩
  | fuel + 1, listed, M, σ, a, w, hg, h => by
    refine ⟨fun h0 => hQ _ _ ⟨M, σ, hg, h.1 h0⟩, fun i hi => ?_⟩
    have hi' := h.2 i hi
    unfold aopAt at hi'
    unfold wpOp
    split
    · rename_i ho
      rw [ho] at hi'
      exact aany_ok hT hQ fuel _ hg hi'
    · rename_i o ho
      rw [ho] at hi'
      have := aopG_ok (Q := Q) hT hg hi' (N := wpAny P .any ops Q fuel (listed.setIfInBounds i true)) (fun a w ⟨M', σ', hg', h'⟩ => aany_ok hT hQ fuel _ hg' h')
      split
      · rename_i hw; rw [if_pos hw] at this; exact .inl this
      · rename_i hw; rw [if_neg hw] at this; exact this

/-- The same in a world that differs in nothing that is told of. -/
theorem G.world {M : Mp} {a : Act} {w w' : World} (hg : G E M σ a w) (h1 : w'.heap = w.heap) (h2 : w'.os = w.os) (h3 : TapeLe w w') (h4 : w'.output = w.output) : G E M σ a w' := by
  have hcls : ∀ id, cls id ≠ 4096 := fun id => by simp only [cls]; omega
  have hgr : Grow 4096 M M w w' := {
    heap := fun b _ => by rw [h1]
    size := by rw [h1]; exact Nat.le_refl _
    κ := fun _ _ => rfl
    κn := fun b j hb hk => by have := (hg.own _ _ hk).1; omega
    blk := fun _ _ => ⟨rfl, rfl⟩
    os := h2
    tape := h3
    out := h4 }
  exact hg.grow hgr (fun id h => absurd h (hcls id)) (fun id _ h => absurd h (hcls id)) (fun id _ _ => hcls id) (fs := []) (by simp) (fun id _ _ _ h => absurd h (hcls id)) (fun id _ h => absurd h (hcls id))

theorem region_any (hT : TTok P) (hm : P.follows .mixedOrders = true) {M : Mp} {a : Act} {w : World} {K : St → Prop} {Q : Exit → Act → World → Prop} (hg : G E M σ a w) {id : Nat} {ops : Array Oper}
    (h : aany (stdA P) ops ops.size (Array.replicate ops.size false) σ K) (hQ : ∀ a w, Nx E K a w → Q .normal a w) : (Code.region id ops true).wp P Q a w :=
  wp_region_any hm (aany_ok hT hQ _ _ (hg.world (w' := { w with drawn := w.drawn + 1 }) rfl rfl ⟨rfl, Nat.le_succ _⟩ rfl) h)

end Go.VAI

namespace Go.VAI
variable {P : Program} {E : Env} {σ σ' : St} {ops : Array Oper}

/-! ### Two calm operations change places -/

def upS (σ : St) (d : Nat) (s : Slot) (fs : List (Nat × File)) : St := put (putFs σ fs) d s

theorem upS_n {d : Nat} {s : Slot} : ∀ {fs : List (Nat × File)} {σ : St}, (upS σ d s fs).n = σ.n
  | [], _ => rfl
  | (i, f) :: fs, σ => upS_n (fs := fs) (σ := putF σ i f)

theorem upS_slots {d : Nat} {s : Slot} {fs : List (Nat × File)} : (upS σ d s fs).slots = upd σ.slots d s := by
  show upd (putFs σ fs).slots d s = _
  rw [putFs_slots.1]

theorem upS_files {d : Nat} {s : Slot} {fs : List (Nat × File)} : (upS σ d s fs).files = (putFs σ fs).files := rfl

theorem putFs_off {j : Nat} : ∀ {fs : List (Nat × File)} {σ : St}, (∀ p ∈ fs, p.1 ≠ j) → (putFs σ fs).files j = σ.files j
  | [], _, _ => rfl
  | (i, f) :: fs, σ, h => by
    show (putFs (putF σ i f) fs).files j = _
    rw [putFs_off (fun p hp => h p (by simp [hp]))]
    show upd σ.files i (some f) j = _
    unfold upd
    rw [if_neg (fun e => h (i, f) (by simp) e.symm)]

theorem putFs_same {j : Nat} : ∀ {fs : List (Nat × File)} {σ σ' : St}, σ.files j = σ'.files j → (putFs σ fs).files j = (putFs σ' fs).files j
  | [], _, _, h => h
  | (i, f) :: fs, σ, σ', h => by
    show (putFs (putF σ i f) fs).files j = (putFs (putF σ' i f) fs).files j
    refine putFs_same ?_
    show upd σ.files i (some f) j = upd σ'.files i (some f) j
    unfold upd
    split
    · rfl
    · exact h

theorem St.ext' {σ σ' : St} (h1 : σ.n = σ'.n) (h2 : σ.slots = σ'.slots) (h3 : σ.files = σ'.files) : σ = σ' := by
  cases σ; cases σ'; simp only at h1 h2 h3; subst h1 h2 h3; rfl

theorem upS_comm {d d' : Nat} {s s' : Slot} {fs fs' : List (Nat × File)} (hd : d ≠ d') (h : ∀ p ∈ fs, ∀ q ∈ fs', p.1 ≠ q.1) : upS (upS σ d s fs) d' s' fs' = upS (upS σ d' s' fs') d s fs := by
  refine St.ext' (by simp only [upS_n]) ?_ ?_
  · simp only [upS_slots]
    funext k
    unfold upd
    by_cases h1 : k = d
    · by_cases h2 : k = d'
      · exact absurd (h1.symm.trans h2) hd
      · rw [if_neg h2, if_pos h1, if_pos h1]
    · by_cases h2 : k = d'
      · rw [if_pos h2, if_neg h1, if_pos h2]
      · rw [if_neg h2, if_neg h1, if_neg h1, if_neg h2]
  · funext j
    show (putFs (upS σ d s fs) fs').files j = (putFs (upS σ d' s' fs') fs).files j
    by_cases hj : ∃ p ∈ fs, p.1 = j
    · obtain ⟨p, hp, rfl⟩ := hj
      rw [putFs_off (fs := fs') (fun q hq => fun e => h p hp q hq e.symm)]
      refine putFs_same (σ' := upS σ d' s' fs') (fs := fs) ?_
      rw [upS_files, putFs_off (fs := fs') (fun q hq => fun e => h p hp q hq e.symm)]
    · have hj' : ∀ p ∈ fs, p.1 ≠ j := fun p hp e => hj ⟨p, hp, e⟩
      rw [putFs_off (fs := fs) hj']
      refine (putFs_same (σ' := σ) (fs := fs') ?_).trans rfl
      rw [upS_files, putFs_off hj']

/-- σ' is as σ in what an operation and its guard look at. -/
structure Looks (ops : Array Oper) (o : Oper) (σ σ' : St) : Prop where
  agree : Agree o σ σ'
  guard : ∀ j w t, o.guard = some (j, w) → (ops[j]?).bind (·.dst) = some t → σ'.slots t = σ.slots t
  n : σ'.n = σ.n

def FrC (o : Oper) (σ : St) : Prop := makes o = true → ∀ d, o.dst = some d → ∀ id, cls id = d → Fr σ id

theorem calm_dst {o : Oper} (h : calm o = true) : ∃ d, o.dst = some d := by
  unfold calm at h
  cases hd : o.dst with
  | none => rw [hd] at h; simp at h
  | some d => exact ⟨d, rfl⟩

theorem calm_out {o : Oper} {d : Nat} (hc : calm o = true) (hd : o.dst = some d) (hfr : FrC o σ) {K : St → Prop} (h : aopG (stdA P) ops o σ K) :
    ∃ s fs, K (upS σ d s fs) ∧ (∀ p ∈ fs, cls p.1 = d) ∧ (makes o = false → fs = []) ∧ (∀ id, cls id ≠ d → Fr σ id → nrS id s ∧ ∀ p ∈ fs, nrF2 id p.2) ∧
      ∀ (σ' : St) (K' : St → Prop), Looks ops o σ σ' → FrC o σ' → K' (upS σ' d s fs) → aopG (stdA P) ops o σ' K' := by
  have act : aop (stdA P) o σ K → ∃ s fs, K (upS σ d s fs) ∧ (∀ p ∈ fs, cls p.1 = d) ∧ (makes o = false → fs = []) ∧ (∀ id, cls id ≠ d → Fr σ id → nrS id s ∧ ∀ p ∈ fs, nrF2 id p.2) ∧
      ∀ (σ' : St) (K' : St → Prop), Looks ops o σ σ' → FrC o σ' → K' (upS σ' d s fs) → aop (stdA P) o σ' K' := by
    intro h
    rw [aop_eq hc hd (fun hm id hid => hfr hm d hd id hid)] at h
    obtain ⟨s, fs, h1, h2, h3, h4, h5⟩ := aopN_ends h
    refine ⟨s, fs, h1, h3, h4, h5, fun σ' K' hl hf hK => ?_⟩
    rw [aop_eq hc hd (fun hm id hid => hf hm d hd id hid), aopN_same hl.agree]
    exact h2 _ hK
  have skip : K (putO σ o.dst .undef) → (∀ (σ' : St) (K' : St → Prop), Looks ops o σ σ' → K' (putO σ' o.dst .undef) → aopG (stdA P) ops o σ' K') → ∃ s fs, K (upS σ d s fs) ∧ (∀ p ∈ fs, cls p.1 = d) ∧ (makes o = false → fs = []) ∧ (∀ id, cls id ≠ d → Fr σ id → nrS id s ∧ ∀ p ∈ fs, nrF2 id p.2) ∧
      ∀ (σ' : St) (K' : St → Prop), Looks ops o σ σ' → FrC o σ' → K' (upS σ' d s fs) → aopG (stdA P) ops o σ' K' := by
    intro hK hall
    refine ⟨.undef, [], by rw [hd] at hK; exact hK, by simp, fun _ => rfl, fun id _ _ => ⟨trivial, by simp⟩, fun σ' K' hl _ hK' => hall σ' K' hl (by rw [hd]; exact hK')⟩
  unfold aopG at h
  split at h
  · rename_i hn
    split at h
    · rename_i hg
      obtain ⟨s, fs, h1, h3, h4, h5, h6⟩ := act h
      refine ⟨s, fs, h1, h3, h4, h5, fun σ' K' hl hf hK => ?_⟩
      unfold aopG
      rw [if_pos (by rw [hl.n]; exact hn)]
      simp only [hg]
      exact h6 σ' K' hl hf hK
    · rename_i j want hg
      split at h
      · rename_i t ht
        split at h
        · rename_i b bs hs
          have run : aop (stdA P) o σ K → (∀ (σ' : St) (K' : St → Prop), Looks ops o σ σ' → aopG (stdA P) ops o σ' K' = aop (stdA P) o σ' K') → ∃ s fs, K (upS σ d s fs) ∧ (∀ p ∈ fs, cls p.1 = d) ∧ (makes o = false → fs = []) ∧ (∀ id, cls id ≠ d → Fr σ id → nrS id s ∧ ∀ p ∈ fs, nrF2 id p.2) ∧
              ∀ (σ' : St) (K' : St → Prop), Looks ops o σ σ' → FrC o σ' → K' (upS σ' d s fs) → aopG (stdA P) ops o σ' K' := by
            intro h he
            obtain ⟨s, fs, h1, h3, h4, h5, h6⟩ := act h
            exact ⟨s, fs, h1, h3, h4, h5, fun σ' K' hl hf hK => by rw [he σ' K' hl]; exact h6 σ' K' hl hf hK⟩
          cases b <;> cases want <;> simp only at h
          · refine run h (fun σ' K' hl => ?_)
            unfold aopG
            rw [if_pos (by rw [hl.n]; exact hn)]
            simp only [hg, ht, hl.guard j _ t hg ht, hs]
          · refine skip h (fun σ' K' hl hK => ?_)
            unfold aopG
            rw [if_pos (by rw [hl.n]; exact hn)]
            simp only [hg, ht, hl.guard j _ t hg ht, hs]
            exact hK
          · refine skip h (fun σ' K' hl hK => ?_)
            unfold aopG
            rw [if_pos (by rw [hl.n]; exact hn)]
            simp only [hg, ht, hl.guard j _ t hg ht, hs]
            exact hK
          · refine run h (fun σ' K' hl => ?_)
            unfold aopG
            rw [if_pos (by rw [hl.n]; exact hn)]
            simp only [hg, ht, hl.guard j _ t hg ht, hs]
        · rename_i hs
          refine skip h (fun σ' K' hl hK => ?_)
          unfold aopG
          rw [if_pos (by rw [hl.n]; exact hn)]
          simp only [hg, ht, hl.guard j want t hg ht, hs]
          exact hK
        · exact h.elim
      · exact h.elim
  · exact h.elim

theorem see1_nr {id : Nat} {s : Slot} (h : nr1 id s) : id ∉ see1 s := by
  cases s with
  | own j sub => simp only [see1, List.mem_singleton]; exact fun e => h e.symm
  | ref j o => simp only [see1, List.mem_singleton]; exact fun e => h e.symm
  | rref j i o => simp only [see1, List.mem_singleton]; exact fun e => h e.symm
  | _ => simp [see1]

theorem see2_nr {id : Nat} (hf : Fr σ id) {s : Slot} (h : nr2 id s) : id ∉ see2 σ s := by
  cases s with
  | ag ls =>
    intro hm
    obtain ⟨t, ht, hm⟩ := List.mem_flatMap.1 hm
    exact see1_nr (h t ht) hm
  | ref j o =>
    simp only [see2, List.mem_cons]
    rintro (e | hm)
    · exact h e.symm
    · split at hm
      · rename_i ls hls
        obtain ⟨t, ht, hm⟩ := List.mem_flatMap.1 hm
        exact see1_nr (nr2_1 (hf.files _ _ hls t ht)) hm
      · simp at hm
  | own j sub => exact see1_nr (s := .own j sub) h
  | rref j i o => exact see1_nr (s := .rref j i o) h
  | _ => simp [see2, see1]

theorem see2_same {s : Slot} (h : ∀ id ∈ see2 σ s, σ'.files id = σ.files id) : see2 σ' s = see2 σ s := by
  cases s with
  | ref j o => simp only [see2]; rw [h j (by simp [see2])]
  | _ => rfl

theorem seeS_same {s : Slot} (h : ∀ id ∈ seeS σ s, σ'.files id = σ.files id) : seeS σ' s = seeS σ s := by
  cases s with
  | clo f ls =>
    simp only [seeS] at h ⊢
    split
    · rename_i hl
      rw [if_pos hl] at h
      exact flatMap_congr (fun t ht => see2_same (fun id hid => h id (List.mem_flatMap.2 ⟨t, ht, hid⟩)))
    · rfl
  | ag ls => exact see2_same (s := .ag ls) h
  | ref j o => exact see2_same (s := .ref j o) h
  | own j o => exact see2_same (s := .own j o) h
  | rref j i o => exact see2_same (s := .rref j i o) h
  | _ => rfl

theorem see2_leaf {id : Nat} (hf : Fr σ id) {s : Slot} (hl : isLeaf s = true) (h : nr1 id s) : id ∉ see2 σ s := by
  refine see2_nr hf ?_
  cases s <;> first | exact h | simp [isLeaf] at hl

theorem seeS_nr {id : Nat} (hf : Fr σ id) {s : Slot} (h : nrS id s) : id ∉ seeS σ s := by
  cases s with
  | clo f ls =>
    simp only [seeS]
    split
    · rename_i hl
      intro hm
      obtain ⟨t, ht, hm⟩ := List.mem_flatMap.1 hm
      exact see2_leaf hf (List.all_eq_true.1 hl t ht) (h t ht) hm
    · simp
  | ag ls => exact see2_nr hf (s := .ag ls) h
  | ref j o => exact see2_nr hf (s := .ref j o) h
  | own j o => exact see2_nr hf (s := .own j o) h
  | rref j i o => exact see2_nr hf (s := .rref j i o) h
  | _ => simp [seeS, see2, see1]

theorem FrC.upS {o : Oper} {d : Nat} {s : Slot} {fs : List (Nat × File)} (h : FrC o σ) (hd : ∀ d', o.dst = some d' → d' ≠ d) (hc : ∀ p ∈ fs, cls p.1 = d)
    (hn : ∀ id, cls id ≠ d → Fr σ id → nrS id s ∧ ∀ p ∈ fs, nrF2 id p.2) : FrC o (upS σ d s fs) := by
  intro hm d' hd' id hid
  have h1 := h hm d' hd' id hid
  have hne : cls id ≠ d := by rw [hid]; exact hd d' hd'
  obtain ⟨h2, h3⟩ := hn id hne h1
  exact fr_put (fr_putFs h1 h3 (fun p hp e => hne (by rw [← e]; exact hc p hp))) h2

/-- What an operation looks at is not touched by another that is apart from it. -/
theorem looks_up {o : Oper} {d : Nat} {s : Slot} {fs : List (Nat × File)} (hl : d ∉ o.looksAt ops) (hfr : ∀ p ∈ fs, Fr σ p.1) : Looks ops o σ (upS σ d s fs) := by
  have hev : ∀ x ∈ o.op.operands, eval (upS σ d s fs) x = eval σ x := by
    intro x hx
    cases x with
    | tmp t =>
      show (upS σ d s fs).slots t = σ.slots t
      rw [upS_slots]
      unfold upd
      rw [if_neg ?_]
      rintro rfl
      exact hl (List.mem_append_left _ (List.mem_filterMap.2 ⟨.tmp t, by simpa using hx, rfl⟩))
    | _ => rfl
  refine ⟨⟨hev, fun x hx id hid => ?_⟩, fun j w t hg ht => ?_, upS_n⟩
  · rw [upS_files]
    refine putFs_off (fun p hp e => ?_)
    subst e
    exact seeS_nr (hfr p hp) (nr_eval (hfr p hp) x) hid
  · rw [upS_slots]
    unfold upd
    rw [if_neg ?_]
    rintro rfl
    exact hl (by unfold Oper.looksAt; rw [hg]; simp only; rw [ht]; simp)

theorem aopG_swap {oi oj : Oper} (ci : calm oi = true) (cj : calm oj = true) (hap : oi.apart ops oj = true) (fi : FrC oi σ) (fj : FrC oj σ) {K : St → Prop}
    (h : aopG (stdA P) ops oi σ (fun σ' => aopG (stdA P) ops oj σ' K)) : aopG (stdA P) ops oj σ (fun σ' => aopG (stdA P) ops oi σ' K) := by
  obtain ⟨a1, a2, a3⟩ := Oper.apart_spec hap
  obtain ⟨di, hdi⟩ := calm_dst ci
  obtain ⟨dj, hdj⟩ := calm_dst cj
  have hne : dj ≠ di := fun e => a2 di hdi (by rw [hdj, e])
  obtain ⟨s, fs, h, hc, hm, hn, hall⟩ := calm_out ci hdi fi h
  have fj1 : FrC oj (upS σ di s fs) := fj.upS (fun d' hd' => by rw [hdj] at hd'; cases hd'; exact hne) hc hn
  obtain ⟨s', fs', h', hc', hm', hn', hall'⟩ := calm_out cj hdj fj1 h
  have fri : ∀ p ∈ fs, Fr σ p.1 := fun p hp => fi (by
    cases hq : makes oi with
    | true => rfl
    | false => rw [hm hq] at hp; simp at hp) di hdi _ (hc p hp)
  have frj : ∀ p ∈ fs', Fr σ p.1 := fun p hp => fj (by
    cases hq : makes oj with
    | true => rfl
    | false => rw [hm' hq] at hp; simp at hp) dj hdj _ (hc' p hp)
  have lj := looks_up (σ := σ) (o := oj) (s := s) (a1 di hdi) fri
  have li := looks_up (σ := σ) (o := oi) (s := s') (a3 dj hdj) frj
  -- j at the old state
  have lj' : Looks ops oj (upS σ di s fs) σ := ⟨⟨fun x hx => (lj.agree.ev x hx).symm, fun x hx id hid => ?_⟩, fun j w t hg ht => (lj.guard j w t hg ht).symm, upS_n.symm⟩
  · refine hall' σ _ lj' fj ?_
    have fi1 : FrC oi (upS σ dj s' fs') := by
      intro hmi d' hd' id hid
      rw [hdi] at hd'; cases hd'
      obtain ⟨s2, fs2, he, hc2, _, hn2, _⟩ := calm_out (K := fun σ' => σ' = upS σ dj s' fs') cj hdj fj (hall' σ _ lj' fj rfl)
      rw [← he]
      exact fi.upS (fun d' hd' => by rw [hdi] at hd'; cases hd'; exact fun e => hne e.symm) hc2 hn2 hmi di hdi id hid
    refine hall _ _ li fi1 ?_
    rw [upS_comm hne (fun p hp q hq e => hne (by rw [← hc' p hp, ← hc q hq, e]))]
    exact h'
  · rw [lj.agree.ev x hx, seeS_same (lj.agree.see x hx)] at hid
    exact (lj.agree.see x hx id hid).symm

end Go.VAI

namespace Go.VAI
variable {P : Program} {E : Env} {ops : Array Oper} {σ : St}

/-! ### What stands ahead of an operation -/

theorem inner_bits (b : Nat → Nat) (i : Nat) : ∀ (l : List Edge) (s : Nat), (l.foldl (fun s e => if Region.binds .any e then s ||| 2 ^ e.on ||| b e.on else s) s).testBit i = true →
    s.testBit i = true ∨ ∃ e ∈ l, Region.binds .any e = true ∧ (e.on = i ∨ (b e.on).testBit i = true)
  | [], s, h => .inl h
  | e :: l, s, h => by
    rw [List.foldl_cons] at h
    rcases inner_bits b i l _ h with h1 | ⟨e', he', h2⟩
    · by_cases hb : Region.binds .any e = true
      · rw [if_pos hb, Nat.testBit_or, Nat.testBit_or, Bool.or_eq_true, Bool.or_eq_true] at h1
        rcases h1 with (h1 | h1) | h1
        · exact .inl h1
        · rw [Nat.testBit_two_pow] at h1
          exact .inr ⟨e, by simp, hb, .inl (by simpa using h1)⟩
        · exact .inr ⟨e, by simp, hb, .inr h1⟩
      · rw [if_neg hb] at h1; exact .inl h1
    · exact .inr ⟨e', by simp [he'], h2⟩

def Bef (ops : Array Oper) (k : Nat) (acc : Array Nat) : Prop :=
  acc.size = k ∧ ∀ j, j < k → ∀ i, (acc.getD j 0).testBit i = true → ∃ o, ops[j]? = some o ∧ ∃ e ∈ o.after, Region.binds .any e = true ∧ (e.on = i ∨ (e.on < j ∧ (acc.getD e.on 0).testBit i = true))

theorem before_spec (ops : Array Oper) : Bef ops ops.size (Region.before ops) := by
  unfold Region.before
  refine Array.foldl_induction (motive := fun k acc => Bef ops k acc) ⟨rfl, fun j hj => absurd hj (Nat.not_lt_zero j)⟩ ?_
  rintro ⟨k, hk⟩ acc ⟨hs, hb⟩
  refine ⟨by simp [hs], fun j hj i hbit => ?_⟩
  simp only at hj
  rcases Nat.lt_or_ge j k with hlt | hge
  · have hget : ∀ (x : Nat) (v : Nat), x < k → (acc.push v).getD x 0 = acc.getD x 0 := by
      intro x v hx
      simp only [Array.getD_eq_getD_getElem?, Array.getElem?_push, hs]
      rw [if_neg (by show ¬ x = k; omega)]
    rw [hget j _ hlt] at hbit
    obtain ⟨o, ho, e, he, hbd, h⟩ := hb j hlt i hbit
    refine ⟨o, ho, e, he, hbd, h.imp id (fun h => ⟨h.1, ?_⟩)⟩
    rw [hget e.on _ (Nat.lt_trans h.1 hlt)]; exact h.2
  · have hjk : j = k := by omega
    subst hjk
    simp only [Array.getD_eq_getD_getElem?, Array.getElem?_push, hs, if_true, Option.getD_some] at hbit
    rw [← Array.foldl_toList] at hbit
    rcases inner_bits (fun x => (acc[x]?).getD 0) i _ 0 hbit with h | ⟨e, he, hbd, h⟩
    · simp at h
    · refine ⟨ops[j], by simp [hk], e, by simpa using he, hbd, h.imp id (fun h => ?_)⟩
      have hlt : e.on < j := by
        rcases Nat.lt_or_ge e.on j with h' | h'
        · exact h'
        · rw [show acc[e.on]? = none from Array.getElem?_eq_none (by rw [hs]; exact h')] at h; simp at h
      refine ⟨hlt, ?_⟩
      simp only [Array.getD_eq_getD_getElem?, Array.getElem?_push, hs]
      rw [if_neg (by show ¬ e.on = j; omega)]; exact h

def Closed (ops : Array Oper) (listed : Array Bool) : Prop := ∀ k o, ops[k]? = some o → listed.getD k true = true → ∀ e ∈ o.after, Region.binds .any e = true → listed.getD e.on false = true

theorem before_listed {listed : Array Bool} (hsz : listed.size = ops.size) (hc : Closed ops listed) : ∀ (j : Nat) (o : Oper), ops[j]? = some o → (∀ e ∈ o.after, Region.binds .any e = true → listed.getD e.on false = true) →
    ∀ i, ((Region.before ops).getD j 0).testBit i = true → listed.getD i false = true := by
  intro j
  induction j using Nat.strongRecOn with
  | ind j ih =>
    intro o ho hall i hbit
    obtain ⟨hs, hb⟩ := before_spec ops
    have hj : j < ops.size := (Array.getElem?_eq_some_iff.1 ho).1
    obtain ⟨o', ho', e, he, hbd, h⟩ := hb j hj i hbit
    rw [ho] at ho'; cases ho'
    rcases h with e1 | ⟨hlt, h⟩
    · rw [← e1]; exact hall e he hbd
    · have h1 := hall e he hbd
      have hk : e.on < ops.size := by omega
      refine ih e.on hlt ops[e.on] (Array.getElem?_eq_getElem hk) (hc _ ops[e.on] (Array.getElem?_eq_getElem hk) ?_) i h
      rw [Array.getD_eq_getD_getElem?] at h1 ⊢
      have hk' : e.on < listed.size := by omega
      rw [Array.getElem?_eq_getElem hk'] at h1 ⊢
      exact h1

/-! ### The order of the text -/

def aopsAt (A : Ar) (ops : Array Oper) : List Nat → St → (St → Prop) → Prop
  | [], σ, K => K σ
  | i :: l, σ, K => aopAt A ops i σ (fun σ' => aopsAt A ops l σ' K)

def Frs (ops : Array Oper) (L : List Nat) (σ : St) : Prop := ∀ i ∈ L, ∀ o, ops[i]? = some o → calm o = true → FrC o σ

theorem aops_at {A : Ar} {K : St → Prop} : ∀ (l : List Oper) (pre : List Oper) {σ : St}, ops.toList = pre ++ l → aops A ops l σ K = aopsAt A ops (List.range' pre.length l.length) σ K
  | [], _, _, _ => rfl
  | o :: l, pre, σ, he => by
    have hget : ops[pre.length]? = some o := by
      have : ops.toList[pre.length]? = some o := by rw [he]; simp
      simpa using this
    simp only [List.length_cons, List.range'_succ, aopsAt, aopAt, hget, aops]
    have : (fun σ' => aops A ops l σ' K) = fun σ' => aopsAt A ops (List.range' (pre.length + 1) l.length) σ' K := funext fun σ' => by
      have := aops_at (A := A) (K := K) l (pre ++ [o]) (σ := σ') (by rw [he]; simp)
      simpa using this
    rw [this]

theorem calm_frs {o : Oper} {L : List Nat} (hc : calm o = true) (hfr : FrC o σ) (hL : Frs ops L σ) (hd : ∀ i ∈ L, ∀ oi, ops[i]? = some oi → calm oi = true → makes oi = true → oi.dst ≠ o.dst) {K : St → Prop}
    (h : aopG (stdA P) ops o σ K) : aopG (stdA P) ops o σ (fun σ' => K σ' ∧ Frs ops L σ') := by
  obtain ⟨d, hdst⟩ := calm_dst hc
  obtain ⟨s, fs, h1, h2, h3, h4, h5⟩ := calm_out hc hdst hfr h
  refine h5 σ _ ⟨⟨fun _ _ => rfl, fun _ _ _ _ => rfl⟩, fun _ _ _ _ _ => rfl, rfl⟩ hfr ⟨h1, fun i hi oi hoi ci hm => ?_⟩
  exact (hL i hi oi hoi ci).upS (fun d' hd' e => hd i hi oi hoi ci hm (by rw [hd', hdst, e])) h2 h4 hm

theorem calm_imp {o : Oper} (hc : calm o = true) (hfr : FrC o σ) {K K' : St → Prop} (hK : ∀ σ', K σ' → K' σ') (h : aopG (stdA P) ops o σ K) : aopG (stdA P) ops o σ K' := by
  obtain ⟨d, hdst⟩ := calm_dst hc
  obtain ⟨s, fs, h1, h2, h3, h4, h5⟩ := calm_out hc hdst hfr h
  exact h5 σ _ ⟨⟨fun _ _ => rfl, fun _ _ _ _ => rfl⟩, fun _ _ _ _ _ => rfl, rfl⟩ hfr (hK _ h1)

theorem move_front {j : Nat} {oj : Oper} (hj : ops[j]? = some oj) (cj : calm oj = true) {L2 : List Nat} {K : St → Prop} : ∀ (L1 : List Nat) {σ : St}, (∀ i ∈ L1, ∃ oi, ops[i]? = some oi ∧ calm oi = true ∧ oi.apart ops oj = true) →
    (L1 ++ j :: L2).Nodup → (∀ i ∈ L1 ++ j :: L2, ∀ k ∈ L1 ++ j :: L2, i ≠ k → ∀ oi ok, ops[i]? = some oi → ops[k]? = some ok → calm oi = true → makes oi = true → oi.dst ≠ ok.dst) →
    Frs ops (L1 ++ j :: L2) σ → aopsAt (stdA P) ops (L1 ++ j :: L2) σ K → aopG (stdA P) ops oj σ (fun σ' => aopsAt (stdA P) ops (L1 ++ L2) σ' K ∧ Frs ops (L1 ++ L2) σ')
  | [], σ, _, hnd, hdst, hfr, h => by
    simp only [List.nil_append, aopsAt, aopAt, hj] at h ⊢
    simp only [List.nil_append, List.nodup_cons] at hnd
    exact calm_frs cj (hfr j (by simp) oj hj cj) (fun i hi => hfr i (by simp [hi])) (fun i hi oi hoi ci hm => hdst i (by simp [hi]) j (by simp) (fun e => hnd.1 (by rw [← e]; exact hi)) oi oj hoi hj ci hm) h
  | i :: L1, σ, hL, hnd, hdst, hfr, h => by
    obtain ⟨oi, hoi, ci, hap⟩ := hL i (by simp)
    have hfi := hfr i (by simp) oi hoi ci
    have hfj := hfr j (by simp) oj hj cj
    simp only [List.cons_append, List.nodup_cons] at hnd
    simp only [List.cons_append, aopsAt, aopAt, hoi] at h
    have h1 := calm_frs (L := L1 ++ j :: L2) ci hfi (fun k hk => hfr k (by simp only [List.cons_append, List.mem_cons]; exact .inr hk)) (fun k hk ok hok ck hm => hdst k (by simp only [List.cons_append, List.mem_cons]; exact .inr hk) i (by simp) (fun e => hnd.1 (by rw [← e]; exact hk)) ok oi hok hoi ck hm) h
    have h2 := calm_imp (K' := fun σ' => aopG (stdA P) ops oj σ' (fun σ' => aopsAt (stdA P) ops (L1 ++ L2) σ' K ∧ Frs ops (L1 ++ L2) σ')) ci hfi (fun σ' h' =>
      move_front hj cj L1 (fun k hk => hL k (by simp [hk])) hnd.2 (fun a ha b hb => hdst a (by simp only [List.cons_append, List.mem_cons]; exact .inr ha) b (by simp only [List.cons_append, List.mem_cons]; exact .inr hb)) h'.2 h'.1) h1
    have h3 := aopG_swap ci cj hap hfi hfj h2
    have h4 := calm_frs (L := i :: (L1 ++ L2)) cj hfj (fun k hk => hfr k (by simp only [List.mem_cons, List.mem_append, List.cons_append] at hk ⊢; rcases hk with h | h | h <;> simp [h])) (fun k hk ok hok ck hm => by
      have hkm : k ∈ i :: L1 ++ j :: L2 := by simp only [List.mem_cons, List.mem_append, List.cons_append] at hk ⊢; rcases hk with h | h | h <;> simp [h]
      have hkj : k ≠ j := by
        rintro rfl
        rcases List.mem_cons.1 hk with rfl | hk
        · exact hnd.1 (by simp)
        · have := hnd.2
          rw [List.nodup_append] at this
          rcases List.mem_append.1 hk with hk | hk
          · exact this.2.2 k hk k (by simp) rfl
          · exact (List.nodup_cons.1 this.2.1).1 hk
      exact hdst k hkm j (by simp) hkj ok oj hok hj ck hm) h3
    refine calm_imp cj hfj (fun σ' h' => ⟨?_, h'.2⟩) h4
    simp only [List.cons_append, aopsAt, aopAt, hoi]
    refine calm_imp ci (h'.2 i (by simp) oi hoi ci) (fun σ'' h'' => h''.1) h'.1

/-! ### A region in whatever order -/

def Ord (ops : Array Oper) (L : List Nat) : Prop := ∀ i ∈ L, ∀ j ∈ L, i < j → ((Region.before ops).getD j 0).testBit i = true

theorem drawOk_spec (h : drawOk ops = true) {j : Nat} {oj : Oper} (hj : ops[j]? = some oj) : (∀ e ∈ oj.after, Region.binds .any e = true → e.on < j) ∧
    ∀ i oi, i < j → ops[i]? = some oi → (((Region.before ops).getD j 0).testBit i = true ∨ ((∀ k ok, k ≤ j → ops[k]? = some ok → calm ok = true) ∧ oi.apart ops oj = true)) ∧
      (oi.dst ≠ oj.dst ∨ ((calm oi = true → makes oi = false) ∧ (calm oj = true → makes oj = false))) := by
  unfold drawOk at h
  have h1 := List.all_eq_true.1 h j (List.mem_range.2 (Array.getElem?_eq_some_iff.1 hj).1)
  simp only [hj, Bool.and_eq_true] at h1
  obtain ⟨h1, h2⟩ := h1
  refine ⟨fun e he hb => ?_, fun i oi hi hoi => ?_⟩
  · have := List.all_eq_true.1 h1 e (by simpa using he)
    simpa [hb, Nat.blt_eq] using this
  · have h3 := List.all_eq_true.1 h2 i (List.mem_range.2 hi)
    simp only [hoi, Bool.and_eq_true, Bool.or_eq_true] at h3
    obtain ⟨h3, h4⟩ := h3
    refine ⟨h3.imp id (fun h3 => ⟨fun k ok hk hok => ?_, h3.2⟩), ?_⟩
    · refine List.all_eq_true.1 h3.1 ok ?_
      have : (ops.toList.take (j + 1))[k]? = some ok := by rw [List.getElem?_take]; rw [if_pos (by omega)]; simpa using hok
      exact List.mem_of_getElem? this
    · rcases h4 with h4 | h4
      · exact .inl (by simpa using h4)
      · refine .inr ⟨fun hc => ?_, fun hc => ?_⟩
        · cases hm : makes oi with
          | false => rfl
          | true => simp [hc, hm] at h4
        · cases hm : makes oj with
          | false => rfl
          | true => simp [hc, hm] at h4

structure Left (ops : Array Oper) (listed : Array Bool) (L : List Nat) : Prop where
  size : listed.size = ops.size
  sorted : L.Pairwise (· < ·)
  mem : ∀ i, i ∈ L ↔ i < ops.size ∧ listed.getD i true = false
  closed : Closed ops listed

theorem getD_tf {listed : Array Bool} {i : Nat} (h : i < listed.size) (a b : Bool) : listed.getD i a = listed.getD i b := by
  simp [Array.getElem?_eq_getElem h]

theorem draw_main (hT : TTok P) (hdr : drawOk ops = true) {Q : Exit → Act → World → Prop} {K : St → Prop} (hQ : ∀ a w, Nx E K a w → Q .normal a w) : ∀ (fuel : Nat) (listed : Array Bool) (L : List Nat) {M : Mp} {σ : St} {a : Act} {w : World}, G E M σ a w →
    Left ops listed L → L.length ≤ fuel → (Ord ops L ∨ Frs ops L σ) → aopsAt (stdA P) ops L σ K → wpAny P .any ops Q fuel listed a w
  | 0, listed, L, M, σ, a, w, hg, hL, hlen, _, h => by
    have : L = [] := List.eq_nil_of_length_eq_zero (by omega)
    subst this
    refine ⟨?_, hQ _ _ ⟨M, σ, hg, h⟩⟩
    cases hr : Region.ready .any ops listed with
    | nil => rfl
    | cons j rs =>
      have hj : j ∈ Region.ready .any ops listed := by rw [hr]; simp
      obtain ⟨h0, o, ho, _⟩ := mem_ready.1 hj
      exact absurd ((hL.mem j).2 ⟨(Array.getElem?_eq_some_iff.1 ho).1, h0⟩) (by simp)
  | fuel + 1, listed, L, M, σ, a, w, hg, hL, hlen, hfr, h => by
    refine ⟨fun hr => ?_, fun j hj => ?_⟩
    · cases L with
      | nil => exact hQ _ _ ⟨M, σ, hg, h⟩
      | cons i L =>
        exfalso
        obtain ⟨hi, hun⟩ := (hL.mem i).1 (by simp)
        have : i ∈ Region.ready .any ops listed := by
          refine mem_ready.2 ⟨hun, ops[i], Array.getElem?_eq_getElem hi, fun e he hb => ?_⟩
          have hlt := (drawOk_spec hdr (Array.getElem?_eq_getElem hi)).1 e he hb
          rw [getD_tf (by rw [hL.size]; omega) false true]
          cases hq : listed.getD e.on true with
          | true => rfl
          | false =>
            have hm := (hL.mem e.on).2 ⟨by omega, hq⟩
            rcases List.mem_cons.1 hm with e1 | hm
            · omega
            · have := (List.pairwise_cons.1 hL.sorted).1 _ hm; omega
        rw [hr] at this; simp at this
    · obtain ⟨hun, oj, hoj, hall⟩ := mem_ready.1 hj
      have hjn := (Array.getElem?_eq_some_iff.1 hoj).1
      have hjL := (hL.mem j).2 ⟨hjn, hun⟩
      obtain ⟨L1, L2, rfl⟩ := List.append_of_mem hjL
      obtain ⟨p1, p2, p3⟩ := List.pairwise_append.1 hL.sorted
      obtain ⟨p4, p5⟩ := List.pairwise_cons.1 p2
      have hnd : (L1 ++ j :: L2).Nodup := hL.sorted.imp (fun h => Nat.ne_of_lt h)
      have hL1 : ∀ i ∈ L1, ((Region.before ops).getD j 0).testBit i ≠ true := by
        intro i hi hb
        have h1 := before_listed hL.size hL.closed j oj hoj hall i hb
        obtain ⟨h2, h3⟩ := (hL.mem i).1 (by simp [hi])
        rw [getD_tf (by rw [hL.size]; exact h2) false true, h3] at h1
        cases h1
      have hLeft : Left ops (listed.setIfInBounds j true) (L1 ++ L2) := by
        refine ⟨by simp [hL.size], hL.sorted.sublist (by simp), fun i => ?_, fun k o ho hk e he hb => ?_⟩
        · constructor
          · intro hi
            have hi' : i ∈ L1 ++ j :: L2 := by rcases List.mem_append.1 hi with h | h <;> simp [h]
            obtain ⟨h1, h2⟩ := (hL.mem i).1 hi'
            refine ⟨h1, ?_⟩
            rw [getD_set_ne true ?_]
            · exact h2
            · rintro rfl
              rcases List.mem_append.1 hi with h | h
              · exact Nat.lt_irrefl _ (p3 j h j (by simp))
              · exact Nat.lt_irrefl _ (p4 j h)
          · rintro ⟨h1, h2⟩
            have hij : j ≠ i := by
              rintro rfl
              rw [Array.getD_eq_getD_getElem?, Array.getElem?_setIfInBounds_self_of_lt (by rw [hL.size]; exact hjn)] at h2
              cases h2
            rw [getD_set_ne true hij] at h2
            have := (hL.mem i).2 ⟨h1, h2⟩
            simp only [List.mem_append, List.mem_cons] at this ⊢
            rcases this with h | h | h
            · exact .inl h
            · exact absurd h.symm hij
            · exact .inr h
        · by_cases hkj : j = k
          · subst hkj
            rw [hoj] at ho; cases ho
            exact getD_set_true (hall e he hb)
          · rw [getD_set_ne true hkj] at hk
            exact getD_set_true (hL.closed k o ho hk e he hb)
      have hlen' : (L1 ++ L2).length ≤ fuel := by simp at hlen ⊢; omega
      -- what is to be shown of the operation
      suffices hs : ∃ K' : St → Prop, aopG (stdA P) ops oj σ K' ∧ ∀ σ', K' σ' → aopsAt (stdA P) ops (L1 ++ L2) σ' K ∧ (Ord ops (L1 ++ L2) ∨ Frs ops (L1 ++ L2) σ') by
        obtain ⟨K', hK', himp⟩ := hs
        have := aopG_ok (Q := Q) hT hg hK' (N := wpAny P .any ops Q fuel (listed.setIfInBounds j true)) (fun a w ⟨M', σ', hg', h'⟩ =>
          draw_main hT hdr hQ fuel _ (L1 ++ L2) hg' hLeft hlen' (himp σ' h').2 (himp σ' h').1)
        unfold wpOp
        simp only [hoj]
        split
        · rename_i hw; rw [if_pos hw] at this; exact .inl this
        · rename_i hw; rw [if_neg hw] at this; exact this
      have first : L1 = [] → aopG (stdA P) ops oj σ (fun σ' => aopsAt (stdA P) ops (L1 ++ L2) σ' K) := by
        rintro rfl
        simp only [List.nil_append, aopsAt, aopAt, hoj] at h
        exact h
      by_cases hO : Ord ops (L1 ++ j :: L2)
      · have h1 : L1 = [] := by
          cases L1 with
          | nil => rfl
          | cons i L1 => exact absurd (hO i (by simp) j (by simp) (p3 i (by simp) j (by simp))) (hL1 i (by simp))
        refine ⟨_, first h1, fun σ' h' => ⟨h', .inl fun i hi k hk => hO i ?_ k ?_⟩⟩
        · rcases List.mem_append.1 hi with h | h <;> simp [h]
        · rcases List.mem_append.1 hk with h | h <;> simp [h]
      · have hfr' := hfr.resolve_left hO
        by_cases hcj : calm oj = true
        · refine ⟨_, move_front hoj hcj L1 (fun i hi => ?_) hnd (fun i hi k hk hne oi ok hoi hok ci hm => ?_) hfr' h, fun σ' h' => ⟨h'.1, .inr h'.2⟩⟩
          · have hlt := p3 i hi j (by simp)
            have hi' : i < ops.size := by omega
            obtain ⟨h1, h2⟩ := ((drawOk_spec hdr hoj).2 i ops[i] hlt (Array.getElem?_eq_getElem hi')).1.resolve_left (hL1 i hi)
            exact ⟨ops[i], Array.getElem?_eq_getElem hi', h1 i _ (by omega) (Array.getElem?_eq_getElem hi'), h2⟩
          · rcases Nat.lt_or_gt_of_ne hne with hlt | hgt
            · rcases ((drawOk_spec hdr hok).2 i oi hlt hoi).2 with h | ⟨h, _⟩
              · exact h
              · rw [h ci] at hm; cases hm
            · rcases ((drawOk_spec hdr hoi).2 k ok hgt hok).2 with h | ⟨_, h⟩
              · exact fun e => h e.symm
              · rw [h ci] at hm; cases hm
        · have h1 : L1 = [] := by
            cases L1 with
            | nil => rfl
            | cons i L1 =>
              exfalso
              have hlt := p3 i (by simp) j (by simp)
              have hi' : i < ops.size := by omega
              obtain ⟨h1, h2⟩ := ((drawOk_spec hdr hoj).2 i ops[i] hlt (Array.getElem?_eq_getElem hi')).1.resolve_left (hL1 i (by simp))
              exact hcj (h1 j oj (Nat.le_refl _) hoj)
          refine ⟨_, first h1, fun σ' h' => ⟨h', .inl fun i hi k hk hlt => ?_⟩⟩
          subst h1
          simp only [List.nil_append] at hi hk
          have hki : k < ops.size := ((hL.mem k).1 (by simp [hk])).1
          have hii : i < ops.size := by omega
          rcases ((drawOk_spec hdr (Array.getElem?_eq_getElem hki)).2 i ops[i] hlt (Array.getElem?_eq_getElem hii)).1 with h2 | ⟨h2, _⟩
          · exact h2
          · exact absurd (h2 j oj (by have := p4 k hk; omega) hoj) hcj

theorem nr1_ret_keep {A : Ar} {σ : St} {id d : Nat} (hid : Fr σ id) (s : Slot) (h : nr1 id s) : nr1 id (ret1 A σ d s) := by
  cases s with
  | pv r bs => exact fun hm => h (mem_dropB.1 hm).1
  | own j sub =>
    simp only [ret1]
    split
    · split
      · rename_i es sz u io hf
        have hu := hid.files _ _ hf
        cases sub with
        | none => exact fun hm => hu (mem_dropB.1 hm).1
        | some p => exact fun hm => hu (mem_dropB.1 hm).1
      · exact trivial
    · exact h
  | ref j o => simp only [ret1]; split <;> first | exact trivial | exact h
  | rref j i o => simp only [ret1]; split <;> first | exact trivial | exact h
  | _ => exact h

theorem fr_retire {A : Ar} {σ : St} {id d : Nat} (h : Fr σ id) : Fr (retire A σ d) id := by
  have k2 : ∀ s, nr2 id s → (∀ ls, s ≠ .tup ls) → nr2 id (map2 (ret1 A σ d) s) ∧ ∀ ls, map2 (ret1 A σ d) s ≠ .tup ls := by
    intro s hs ht
    have leaf : ∀ s, (∀ ls, s ≠ .ag ls) → (∀ f ls, s ≠ .clo f ls) → (∀ ls, s ≠ .tup ls) → nr1 id s → nr2 id (ret1 A σ d s) ∧ ∀ ls, ret1 A σ d s ≠ .tup ls := fun s h1 h2 h3 h4 =>
      ⟨nr2_of1 (ret1_leaf s h1 h2 h3).1 (ret1_leaf s h1 h2 h3).2.1 (nr1_ret_keep h s h4), (ret1_leaf s h1 h2 h3).2.2⟩
    cases s with
    | ag ls => exact ⟨by intro t ht; obtain ⟨u, hu, rfl⟩ := List.mem_map.1 ht; exact nr1_ret_keep h u (hs u hu), by intro ls e; cases e⟩
    | clo f ls => exact ⟨by intro t ht; obtain ⟨u, hu, rfl⟩ := List.mem_map.1 ht; exact nr1_ret_keep h u (hs u hu), by intro ls e; cases e⟩
    | tup ls => exact absurd rfl (ht ls)
    | pv r bs => exact leaf (.pv r bs) (by simp) (by simp) (by simp) hs
    | own j sub => exact leaf (.own j sub) (by simp) (by simp) (by simp) hs
    | ref j o => exact leaf (.ref j o) (by simp) (by simp) (by simp) hs
    | rref j i o => exact leaf (.rref j i o) (by simp) (by simp) (by simp) hs
    | undef => exact leaf .undef (by simp) (by simp) (by simp) trivial
    | dead => exact leaf .dead (by simp) (by simp) (by simp) trivial
  have kt : ∀ s, nr2 id s → nr2 id (map2 (ret1 A σ d) s) := by
    intro s hs
    cases s with
    | tup ls => exact trivial
    | ag ls => exact (k2 (.ag ls) hs (by simp)).1
    | clo f ls => exact (k2 (.clo f ls) hs (by simp)).1
    | pv r bs => exact (k2 (.pv r bs) hs (by simp)).1
    | own j sub => exact (k2 (.own j sub) hs (by simp)).1
    | ref j o => exact (k2 (.ref j o) hs (by simp)).1
    | rref j i o => exact (k2 (.rref j i o) hs (by simp)).1
    | undef => exact trivial
    | dead => exact trivial
  refine ⟨fun k => ?_, fun j f hf => ?_, ?_⟩
  · have hs := h.slots k
    show nrS id (mapS (ret1 A σ d) (σ.slots k))
    cases hk : σ.slots k with
    | tup ls => rw [hk] at hs; intro t ht; obtain ⟨u, hu, rfl⟩ := List.mem_map.1 ht; exact kt u (hs u hu)
    | ag ls => rw [hk] at hs; exact nrS_of2 (k2 (.ag ls) hs (by simp)).2 (k2 (.ag ls) hs (by simp)).1
    | clo f ls => rw [hk] at hs; exact nrS_of2 (k2 (.clo f ls) hs (by simp)).2 (k2 (.clo f ls) hs (by simp)).1
    | pv r bs => rw [hk] at hs; exact nrS_of2 (k2 (.pv r bs) hs (by simp)).2 (k2 (.pv r bs) hs (by simp)).1
    | own j sub => rw [hk] at hs; exact nrS_of2 (k2 (.own j sub) hs (by simp)).2 (k2 (.own j sub) hs (by simp)).1
    | ref j o => rw [hk] at hs; exact nrS_of2 (k2 (.ref j o) hs (by simp)).2 (k2 (.ref j o) hs (by simp)).1
    | rref j i o => rw [hk] at hs; exact nrS_of2 (k2 (.rref j i o) hs (by simp)).2 (k2 (.rref j i o) hs (by simp)).1
    | undef => exact trivial
    | dead => exact trivial
  · obtain ⟨_, f0, h1, rfl⟩ := retire_files.1 hf
    have := h.files _ _ h1
    cases f0 with
    | cell ls => intro t ht; obtain ⟨u, hu, rfl⟩ := List.mem_map.1 ht; exact kt u (this u hu)
    | row es sz u io =>
      cases u with
      | free => simp [retF, nrF2, rubs]
      | sh bs => exact fun hm => this (mem_dropB.1 hm).1
  · show (if cls id = d then none else _) = none
    split
    · rfl
    · rw [h.none]

theorem retireL_ok {A : Ar} (hA : A = stdA P) {X : Prop} {K : St → Prop} : ∀ {l : List Oper} {M : Mp} {σ : St} {a : Act} {w : World} (S : Oper → Prop), G E M σ a w → (∀ o, S o → FrC o σ) → retireL A l σ K →
    (∀ M' σ', G E M' σ' a w → (∀ o, S o ∨ (o ∈ l ∧ calm o = true) → FrC o σ') → K σ' → X) → X
  | [], M, σ, a, w, S, hg, hS, h, hX => hX M σ hg (fun o ho => hS o (ho.resolve_right (by simp))) h
  | o :: l, M, σ, a, w, S, hg, hS, h, hX => by
    simp only [retireL] at h
    split at h
    · rename_i d hm hd
      rw [Bool.and_eq_true] at hm
      unfold mkF at h
      split at h
      · rename_i hio
        obtain ⟨hge, hlt⟩ := okD_lt hio
        have hg' := hg.retire (A := A) (d := d) (fun _ _ _ => by rw [hA]; rfl) (by
          intro id q hq hcl
          obtain ⟨hs, hs'⟩ := E.small id q hq
          have : id = d := by simp only [cls] at hcl; omega
          subst this
          omega)
        refine retireL_ok hA (l := l) (fun o' => S o' ∨ o' = o) hg' (fun o' ho' => ?_) h (fun M2 σ2 g2 f2 k2 => hX M2 σ2 g2 (fun o' ho' => f2 o' ?_) k2)
        · rcases ho' with ho' | rfl
          · exact fun hm' d' hd' id hid => fr_retire (hS o' ho' hm' d' hd' id hid)
          · intro hm' d' hd' id hid
            rw [hd] at hd'; cases hd'
            exact retire_fr hid
        · rcases ho' with ho' | ⟨ho', hc⟩
          · exact .inl (.inl ho')
          · rcases List.mem_cons.1 ho' with rfl | ho'
            · exact .inl (.inr rfl)
            · exact .inr ⟨ho', hc⟩
      · exact h.elim
    · rename_i hno
      refine retireL_ok hA (l := l) S hg hS h (fun M2 σ2 g2 f2 k2 => hX M2 σ2 g2 (fun o' ho' => ?_) k2)
      rcases ho' with ho' | ⟨ho', hc⟩
      · exact f2 o' (.inl ho')
      · rcases List.mem_cons.1 ho' with rfl | ho'
        · intro hm d hd
          exact absurd hd (by
            intro hd
            exact hno d (by rw [hc, hm]; rfl) hd)
        · exact f2 o' (.inr ⟨ho', hc⟩)

/-- A region in whatever order. -/
theorem draw_ok (hT : TTok P) (hm : P.follows .mixedOrders = true) {M : Mp} {σ : St} {a : Act} {w : World} {K : St → Prop} {Q : Exit → Act → World → Prop} (hg : G E M σ a w) {id : Nat} {ops : Array Oper} (hdr : drawOk ops = true)
    (h : retireL (stdA P) ops.toList σ (fun σ => aops (stdA P) ops ops.toList σ K)) (hQ : ∀ a w, Nx E K a w → Q .normal a w) : (Code.region id ops true).wp P Q a w := by
  refine retireL_ok rfl (fun _ => False) hg (fun _ h => h.elim) h (fun M' σ' g' f' h' => ?_)
  refine wp_region_any hm (draw_main hT hdr hQ _ _ (List.range' 0 ops.toList.length) (g'.world (w' := { w with drawn := w.drawn + 1 }) rfl rfl ⟨rfl, Nat.le_succ _⟩ rfl) ⟨by simp, List.pairwise_lt_range', fun i => ?_, fun k o ho hk => ?_⟩ (by simp) (.inr fun i hi o ho hc => f' o (.inr ⟨?_, hc⟩)) ?_)
  · simp only [List.mem_range', Array.length_toList]
    constructor
    · rintro ⟨k, hk, rfl⟩
      exact ⟨by omega, by simp [hk]⟩
    · rintro ⟨h1, _⟩
      exact ⟨i, h1, by omega⟩
  · rw [Array.getD_eq_getD_getElem?, Array.getElem?_replicate] at hk
    have hlt := (Array.getElem?_eq_some_iff.1 ho).1
    rw [if_pos hlt] at hk; cases hk
  · exact Array.mem_toList_iff.2 (Array.mem_of_getElem? ho)
  · have := aops_at (A := stdA P) (K := K) (ops := ops) ops.toList [] (σ := σ') (by simp)
    rw [this] at h'
    exact h'

/-! ### A region of which every order is gone through -/

theorem allOf_mem {α : Type} {f : α → Prop} : ∀ {l : List α}, allOf f l → ∀ x ∈ l, f x
  | [], _, x, hx => by simp at hx
  | [y], h, x, hx => by
    simp only [List.mem_singleton] at hx
    subst hx; exact h
  | y :: z :: l, h, x, hx => by
    rcases List.mem_cons.1 hx with rfl | hx
    · exact h.1
    · exact allOf_mem (l := z :: l) h.2 x hx

structure Done (ops : Array Oper) (listed : Array Bool) (done : List Nat) : Prop where
  size : listed.size = ops.size
  same : ∀ i, i < ops.size → listed.getD i true = done.elem i

theorem ready_done {listed : Array Bool} {done : List Nat} (h : Done ops listed done) {j : Nat} (hj : j ∈ Region.ready .any ops listed) : j ∈ readyL ops.toList done ∧ j < ops.size := by
  obtain ⟨h0, o, ho, hall⟩ := mem_ready.1 hj
  have hjn := (Array.getElem?_eq_some_iff.1 ho).1
  refine ⟨?_, hjn⟩
  unfold readyL
  rw [List.mem_map]
  refine ⟨(o, j), ?_, rfl⟩
  rw [List.mem_filter, List.mem_zipIdx_iff_getElem?]
  refine ⟨by simpa using ho, ?_⟩
  rw [h.same j hjn] at h0
  simp only [h0, Bool.not_false, Bool.true_and, List.all_eq_true, Bool.or_eq_true, Bool.not_eq_true']
  intro e he
  cases hb : Region.binds .any e with
  | false => exact .inl rfl
  | true =>
    right
    have h1 := hall e (by simpa using he) hb
    have hlt' : e.on < listed.size := by
      rcases Nat.lt_or_ge e.on listed.size with h' | h'
      · exact h'
      · simp [Array.getElem?_eq_none h'] at h1
    rw [getD_tf hlt' false true, h.same e.on (by rw [← h.size]; exact hlt')] at h1
    exact h1

theorem done_ready {listed : Array Bool} {done : List Nat} (h : Done ops listed done) (hr : Region.ready .any ops listed = []) (hlt : ∀ i ∈ done, i < ops.size) : readyL ops.toList done = [] := by
  rw [List.eq_nil_iff_forall_not_mem]
  intro j hj
  unfold readyL at hj
  rw [List.mem_map] at hj
  obtain ⟨⟨o, i⟩, hm, rfl⟩ := hj
  rw [List.mem_filter, List.mem_zipIdx_iff_getElem?] at hm
  obtain ⟨ho, hc⟩ := hm
  have ho' : ops[i]? = some o := by simpa using ho
  have hin := (Array.getElem?_eq_some_iff.1 ho').1
  simp only [Bool.and_eq_true, Bool.not_eq_true', List.all_eq_true, Bool.or_eq_true] at hc
  have : i ∈ Region.ready .any ops listed := by
    refine mem_ready.2 ⟨by rw [h.same i hin]; exact hc.1, o, ho', fun e he hb => ?_⟩
    rcases hc.2 e (by simpa using he) with h1 | h1
    · rw [hb] at h1; cases h1
    · have hl := hlt e.on (by simpa using h1)
      rw [getD_tf (by rw [h.size]; exact hl) false true, h.same e.on hl]
      exact h1
  rw [hr] at this; simp at this

theorem aanyL_ok (hT : TTok P) {Q : Exit → Act → World → Prop} {K : St → Prop} (hQ : ∀ a w, Nx E K a w → Q .normal a w) : ∀ (fuel : Nat) (listed : Array Bool) (done : List Nat) {M : Mp} {σ : St} {a : Act} {w : World}, G E M σ a w →
    Done ops listed done → (∀ i ∈ done, i < ops.size) → aanyL (stdA P) ops fuel done σ K → wpAny P .any ops Q fuel listed a w
  | 0, listed, done, M, σ, a, w, hg, hd, hlt, h => by
    simp only [aanyL] at h
    split at h
    · rename_i hr
      refine ⟨?_, hQ _ _ ⟨M, σ, hg, h⟩⟩
      rw [List.eq_nil_iff_forall_not_mem]
      intro j hj
      have := (ready_done hd hj).1
      rw [hr] at this; simp at this
    · exact h.elim
  | fuel + 1, listed, done, M, σ, a, w, hg, hd, hlt, h => by
    simp only [aanyL] at h
    refine ⟨fun hr => ?_, fun j hj => ?_⟩
    · rw [done_ready hd hr hlt] at h
      exact hQ _ _ ⟨M, σ, hg, h⟩
    · obtain ⟨hjr, hjn⟩ := ready_done hd hj
      split at h
      · rename_i hr; rw [hr] at hjr; simp at hjr
      · have hj' := allOf_mem h j hjr
        unfold wpOp
        have ho : ops[j]? = some ops[j] := Array.getElem?_eq_getElem hjn
        have ho' : ops.toList[j]? = some ops[j] := by simp
        simp only [ho']  at hj'
        simp only [ho]
        have hd' : Done ops (listed.setIfInBounds j true) (j :: done) := by
          refine ⟨by simp [hd.size], fun i hi => ?_⟩
          by_cases hij : j = i
          · subst hij
            rw [Array.getD_eq_getD_getElem?, Array.getElem?_setIfInBounds_self_of_lt (by rw [hd.size]; exact hi)]
            simp
          · rw [getD_set_ne true hij, hd.same i hi]
            simp [Ne.symm hij]
        have := aopG_ok (Q := Q) hT hg hj' (N := wpAny P .any ops Q fuel (listed.setIfInBounds j true)) (fun a w ⟨M', σ', hg', h'⟩ =>
          aanyL_ok hT hQ fuel _ (j :: done) hg' hd' (fun i hi => by rcases List.mem_cons.1 hi with rfl | hi; exact hjn; exact hlt i hi) h')
        split
        · rename_i hw; rw [if_pos hw] at this; exact .inl this
        · rename_i hw; rw [if_neg hw] at this; exact this

theorem drawL_ok (hT : TTok P) (hm : P.follows .mixedOrders = true) {M : Mp} {σ : St} {a : Act} {w : World} {K : St → Prop} {Q : Exit → Act → World → Prop} (hg : G E M σ a w) {id : Nat} {ops : Array Oper}
    (h : aanyL (stdA P) ops ops.toList.length [] σ K) (hQ : ∀ a w, Nx E K a w → Q .normal a w) : (Code.region id ops true).wp P Q a w := by
  refine wp_region_any hm ?_
  have := aanyL_ok hT hQ ops.toList.length (Array.replicate ops.size false) [] (hg.world (w' := { w with drawn := w.drawn + 1 }) rfl rfl ⟨rfl, Nat.le_succ _⟩ rfl) ⟨by simp, fun i hi => by simp [hi]⟩ (by simp) h
  simpa using this

/-! ### A region of which some calm operations are taken ahead -/

def PP (ops : Array Oper) (i j : Nat) : Prop := ∀ oi oj, ops[i]? = some oi → ops[j]? = some oj → ((Region.before ops).getD j 0).testBit i = true ∨ (calm oj = true ∧ oi.apart ops oj = true)

structure Pre (ops : Array Oper) (pre : List Nat) : Prop where
  edge : ∀ j o, ops[j]? = some o → ∀ e ∈ o.after, Region.binds .any e = true → e.on < j
  dst : ∀ (i j : Nat) (oi oj : Oper), i ≠ j → ops[i]? = some oi → ops[j]? = some oj → calm oi = true → makes oi = true → oi.dst ≠ oj.dst
  nodup : pre.Nodup
  calm : ∀ i ∈ pre, ∃ o, ops[i]? = some o ∧ VAI.calm o = true
  inn : pre.Pairwise (PP ops)
  out : ∀ i ∈ pre, ∀ j, j < ops.size → j ∉ pre → PP ops i j

theorem nodupB_spec : ∀ {l : List Nat}, preOk.nodupB l = true → l.Nodup
  | [], _ => List.nodup_nil
  | i :: l, h => by
    simp only [preOk.nodupB, Bool.and_eq_true, Bool.not_eq_true'] at h
    exact List.nodup_cons.2 ⟨fun hm => by have := h.1; simp [hm] at this, nodupB_spec h.2⟩

theorem pairsOk_spec {p : Nat → Nat → Bool} {r : List Nat} : ∀ {l : List Nat}, preOk.pairsOk p l r = true → l.Pairwise (fun i j => p i j = true) ∧ ∀ i ∈ l, ∀ j ∈ r, p i j = true
  | [], _ => ⟨List.Pairwise.nil, by simp⟩
  | i :: l, h => by
    simp only [preOk.pairsOk, Bool.and_eq_true, List.all_eq_true] at h
    obtain ⟨⟨h1, h2⟩, h3⟩ := h
    obtain ⟨h4, h5⟩ := pairsOk_spec h3
    refine ⟨List.pairwise_cons.2 ⟨h1, h4⟩, fun k hk j hj => ?_⟩
    rcases List.mem_cons.1 hk with rfl | hk
    · exact h2 j hj
    · exact h5 k hk j hj

theorem pp_of {i j : Nat} (h : (match ops[i]?, ops[j]? with
    | some oi, some oj => ((Region.before ops).getD j 0).testBit i || (calm oj && oi.apart ops oj)
    | _, _ => false) = true) : PP ops i j := by
  intro oi oj hi hj
  rw [hi, hj] at h
  simpa only [Bool.or_eq_true, Bool.and_eq_true] using h

theorem preOk_spec {pre : List Nat} (h : preOk ops pre = true) : Pre ops pre := by
  unfold preOk at h
  simp only [Bool.and_eq_true] at h
  obtain ⟨⟨⟨h1, h2⟩, h3⟩, h4⟩ := h
  obtain ⟨h5, h6⟩ := pairsOk_spec h4
  have g1 : ∀ j o, ops[j]? = some o → _ := fun j o ho => by
    have := List.all_eq_true.1 h1 j (List.mem_range.2 (Array.getElem?_eq_some_iff.1 ho).1)
    rw [ho] at this
    simp only [Bool.and_eq_true] at this
    exact this
  refine ⟨fun j o ho e he hb => ?_, fun i j oi oj hne hi hj ci hm => ?_, nodupB_spec h3.1, fun i hi => ?_, h5.imp pp_of, fun i hi j hj hjp => pp_of (h6 i hi j ?_)⟩
  · have := List.all_eq_true.1 (g1 j o ho).1 e (by simpa using he)
    simpa [hb, Nat.blt_eq] using this
  · have := List.all_eq_true.1 (g1 j oj hj).2 i (List.mem_range.2 (Array.getElem?_eq_some_iff.1 hi).1)
    rw [hi] at this
    simp only [ci, hm, Bool.and_true, Bool.not_true, Bool.false_or, Bool.or_eq_true, beq_iff_eq, bne_iff_ne] at this
    exact this.resolve_left hne
  · have := List.all_eq_true.1 h2 i hi
    split at this
    · rename_i o ho; exact ⟨o, ho, this⟩
    · cases this
  · rw [List.mem_filter]
    exact ⟨List.mem_range.2 hj, by simpa using hjp⟩

theorem all_listed {pre : List Nat} (hp : Pre ops pre) {listed : Array Bool} (hsz : listed.size = ops.size) (hr : Region.ready .any ops listed = []) : ∀ (j : Nat), j < ops.size → listed.getD j true = true := by
  intro j
  induction j using Nat.strongRecOn with
  | ind j ih =>
    intro hj
    cases hq : listed.getD j true with
    | true => rfl
    | false =>
      have : j ∈ Region.ready .any ops listed := mem_ready.2 ⟨hq, ops[j], Array.getElem?_eq_getElem hj, fun e he hb => by
        have hlt := hp.edge j ops[j] (Array.getElem?_eq_getElem hj) e he hb
        rw [getD_tf (by rw [hsz]; omega) false true]
        exact ih e.on hlt (by omega)⟩
      rw [hr] at this; simp at this

theorem aopsAt_imp {K K' : St → Prop} (hK : ∀ σ', K σ' → K' σ') : ∀ (L : List Nat) {σ : St}, (∀ i ∈ L, ∃ oi, ops[i]? = some oi ∧ calm oi = true) → L.Nodup →
    (∀ (i j : Nat) (oi oj : Oper), i ≠ j → ops[i]? = some oi → ops[j]? = some oj → calm oi = true → makes oi = true → oi.dst ≠ oj.dst) → Frs ops L σ → aopsAt (stdA P) ops L σ K → aopsAt (stdA P) ops L σ K'
  | [], _, _, _, _, _, h => hK _ h
  | i :: L, σ, hc, hnd, hdst, hfr, h => by
    obtain ⟨oi, hoi, ci⟩ := hc i (by simp)
    obtain ⟨hn1, hn2⟩ := List.nodup_cons.1 hnd
    simp only [aopsAt, aopAt, hoi] at h ⊢
    have hfi := hfr i (by simp) oi hoi ci
    refine calm_imp ci hfi (fun σ' h' => aopsAt_imp hK L (fun k hk => hc k (by simp [hk])) hn2 hdst h'.2 h'.1)
      (calm_frs (L := L) ci hfi (fun k hk => hfr k (by simp [hk])) (fun k hk ok hok ck hm => hdst k i ok oi (by rintro rfl; exact hn1 hk) hok hoi ck hm) h)

theorem aopsAt_false : ∀ (L : List Nat) {σ : St}, (∀ i ∈ L, ∃ oi, ops[i]? = some oi ∧ calm oi = true) → L.Nodup →
    (∀ (i j : Nat) (oi oj : Oper), i ≠ j → ops[i]? = some oi → ops[j]? = some oj → calm oi = true → makes oi = true → oi.dst ≠ oj.dst) → Frs ops L σ → aopsAt (stdA P) ops L σ (fun _ => False) → False
  | [], _, _, _, _, _, h => h
  | i :: L, σ, hc, hnd, hdst, hfr, h => by
    obtain ⟨oi, hoi, ci⟩ := hc i (by simp)
    obtain ⟨hn1, hn2⟩ := List.nodup_cons.1 hnd
    simp only [aopsAt, aopAt, hoi] at h
    have hfi := hfr i (by simp) oi hoi ci
    have h2 := calm_imp (K' := fun _ => False) ci hfi (fun σ' h' => aopsAt_false L (fun k hk => hc k (by simp [hk])) hn2 hdst h'.2 h'.1)
      (calm_frs (L := L) ci hfi (fun k hk => hfr k (by simp [hk])) (fun k hk ok hok ck hm => hdst k i ok oi (by rintro rfl; exact hn1 hk) hok hoi ck hm) h)
    obtain ⟨d, hdst'⟩ := calm_dst ci
    obtain ⟨_, _, h3, _⟩ := calm_out ci hdst' hfi h2
    exact h3

theorem aopsAt_app {K : St → Prop} {j : Nat} : ∀ (L : List Nat) {σ : St}, aopsAt (stdA P) ops (L ++ [j]) σ K = aopsAt (stdA P) ops L σ (fun σ' => aopAt (stdA P) ops j σ' K)
  | [], _ => rfl
  | i :: L, σ => by
    simp only [List.cons_append, aopsAt]
    congr 1
    funext σ'
    exact aopsAt_app L

structure Inv (ops : Array Oper) (pre : List Nat) (listed : Array Bool) (L D : List Nat) : Prop where
  size : listed.size = ops.size
  sub : L.Sublist pre
  un : ∀ i ∈ L, listed.getD i true = false
  lt : ∀ i ∈ D, i < ops.size
  preD : ∀ i ∈ pre, i ∈ D
  same : ∀ i, i < ops.size → i ∉ L → listed.getD i true = D.elem i
  closed : Closed ops listed

def Unl (ops : Array Oper) (listed : Array Bool) : List Nat := (List.range ops.size).filter fun i => !listed.getD i true

theorem mem_unl {listed : Array Bool} {i : Nat} : i ∈ Unl ops listed ↔ i < ops.size ∧ listed.getD i true = false := by
  simp [Unl, List.mem_filter]

theorem pre_main (hT : TTok P) {pre : List Nat} (hp : Pre ops pre) {Q : Exit → Act → World → Prop} {K : St → Prop} (hQ : ∀ a w, Nx E K a w → Q .normal a w) : ∀ (fuel : Nat) (listed : Array Bool) (L D : List Nat) (m : Nat) {M : Mp} {σ : St} {a : Act} {w : World}, G E M σ a w →
    fuel = L.length + m → Inv ops pre listed L D → Frs ops (Unl ops listed) σ → aopsAt (stdA P) ops L σ (fun σ' => aanyL (stdA P) ops m D σ' K) → wpAny P .any ops Q fuel listed a w := by
  intro fuel
  induction fuel with
  | zero =>
    intro listed L D m M σ a w hg hf hI hfr h
    have : L = [] := List.eq_nil_of_length_eq_zero (by omega)
    subst this
    have : m = 0 := by simp at hf; omega
    subst this
    exact aanyL_ok hT hQ 0 listed D hg ⟨hI.size, fun i hi => hI.same i hi (by simp)⟩ hI.lt h
  | succ fuel ih =>
    intro listed L D m M σ a w hg hf hI hfr h
    cases hL : L with
    | nil =>
      subst hL
      simp only [List.length_nil, Nat.zero_add] at hf
      subst hf
      exact aanyL_ok hT hQ _ listed D hg ⟨hI.size, fun i hi => hI.same i hi (by simp)⟩ hI.lt h
    | cons i0 L' =>
      have hi0 : i0 ∈ L := by rw [hL]; simp
      rw [hL] at hi0
      rw [← hL] at hi0
      refine ⟨fun hr => ?_, fun j hj => ?_⟩
      · exfalso
        obtain ⟨o, ho, _⟩ := hp.calm i0 (hI.sub.subset hi0)
        have := all_listed hp hI.size hr i0 (Array.getElem?_eq_some_iff.1 ho).1
        rw [hI.un i0 hi0] at this; cases this
      · obtain ⟨hun, oj, hoj, hall⟩ := mem_ready.1 hj
        have hjn := (Array.getElem?_eq_some_iff.1 hoj).1
        have noB : ∀ i ∈ L, ((Region.before ops).getD j 0).testBit i ≠ true := by
          intro i hi hb
          have h1 := before_listed hI.size hI.closed j oj hoj hall i hb
          obtain ⟨o, ho, _⟩ := hp.calm i (hI.sub.subset hi)
          rw [getD_tf (by rw [hI.size]; exact (Array.getElem?_eq_some_iff.1 ho).1) false true, hI.un i hi] at h1
          cases h1
        have hcl : Closed ops (listed.setIfInBounds j true) := by
          intro k o ho hk e he hb
          by_cases hkj : j = k
          · subst hkj
            rw [hoj] at ho; cases ho
            exact getD_set_true (hall e he hb)
          · rw [getD_set_ne true hkj] at hk
            exact getD_set_true (hI.closed k o ho hk e he hb)
        have hset : (listed.setIfInBounds j true).getD j true = true := by
          rw [Array.getD_eq_getD_getElem?, Array.getElem?_setIfInBounds_self_of_lt (by rw [hI.size]; exact hjn)]; rfl
        have hcalmL : ∀ i ∈ L, ∃ oi, ops[i]? = some oi ∧ calm oi = true := fun i hi => hp.calm i (hI.sub.subset hi)
        have hndL : L.Nodup := hI.sub.nodup hp.nodup
        have hunL : ∀ i ∈ L, i ∈ Unl ops listed := fun i hi => by
          obtain ⟨o, ho, _⟩ := hcalmL i hi
          exact mem_unl.2 ⟨(Array.getElem?_eq_some_iff.1 ho).1, hI.un i hi⟩
        have hunj : j ∈ Unl ops listed := mem_unl.2 ⟨hjn, hun⟩
        -- what is left after j
        suffices hs : calm oj = true ∧ ∃ L' D' m', fuel = L'.length + m' ∧ Inv ops pre (listed.setIfInBounds j true) L' D' ∧ aopG (stdA P) ops oj σ (fun σ' => aopsAt (stdA P) ops L' σ' (fun σ' => aanyL (stdA P) ops m' D' σ' K)) by
          obtain ⟨cj, L', D', m', hf', hI', h'⟩ := hs
          have h2 := calm_frs (L := Unl ops (listed.setIfInBounds j true)) cj (hfr j hunj oj hoj cj) (fun i hi => hfr i (by
            obtain ⟨h1, h2⟩ := mem_unl.1 hi
            refine mem_unl.2 ⟨h1, ?_⟩
            by_cases hij : j = i
            · subst hij; rw [hset] at h2; cases h2
            · rwa [getD_set_ne true hij] at h2)) (fun i hi oi hoi ci hm => hp.dst i j oi oj (by
            rintro rfl
            have := (mem_unl.1 hi).2
            rw [hset] at this; cases this) hoi hoj ci hm) h'
          unfold wpOp
          simp only [hoj]
          have := aopG_ok (Q := Q) hT hg h2 (N := wpAny P .any ops Q fuel (listed.setIfInBounds j true)) (fun a w ⟨M', σ', hg', h'⟩ => ih _ L' D' m' hg' hf' hI' h'.2 h'.1)
          split
          · rename_i hw; rw [if_pos hw] at this; exact .inl this
          · rename_i hw; rw [if_neg hw] at this; exact this
        by_cases hjL : j ∈ L
        · obtain ⟨L1, L2, rfl⟩ := List.append_of_mem hjL
          obtain ⟨oj', hoj', cj⟩ := hcalmL j hjL
          rw [hoj] at hoj'; cases hoj'
          have hpw := List.pairwise_append.1 (hp.inn.sublist hI.sub)
          have hnd1 := List.nodup_append.1 hndL
          have hnd2 := List.nodup_cons.1 hnd1.2.1
          have hjn' : j ∉ L1 ++ L2 := by
            intro hm
            rcases List.mem_append.1 hm with hm | hm
            · exact hnd1.2.2 j hm j (by simp) rfl
            · exact hnd2.1 hm
          refine ⟨cj, L1 ++ L2, D, m, by simp at hf ⊢; omega, ⟨by simp [hI.size], .trans (by simp) hI.sub, fun i hi => ?_, hI.lt, hI.preD, fun i hi hiL => ?_, hcl⟩, ?_⟩
          · rw [getD_set_ne true (by rintro rfl; exact hjn' hi)]
            exact hI.un i (by rcases List.mem_append.1 hi with h | h <;> simp [h])
          · by_cases hij : j = i
            · subst hij
              rw [hset]
              have := hI.preD j (hI.sub.subset hjL)
              simp [this]
            · rw [getD_set_ne true hij]
              refine hI.same i hi (fun hm => hiL ?_)
              rcases List.mem_append.1 hm with hm | hm
              · simp [hm]
              · rcases List.mem_cons.1 hm with hm | hm
                · exact absurd hm.symm hij
                · simp [hm]
          · refine calm_imp cj (hfr j hunj oj hoj cj) (fun σ' h' => h'.1) (move_front hoj cj L1 (fun i hi => ?_) hndL (fun i _ k _ hne oi ok hoi hok ci hm => hp.dst i k oi ok hne hoi hok ci hm) (fun i hi => hfr i (hunL i hi)) h)
            obtain ⟨oi, hoi, ci⟩ := hcalmL i (by simp [hi])
            exact ⟨oi, hoi, ci, ((hpw.2.2 i hi j (by simp) oi oj hoi hoj).resolve_left (noB i (by simp [hi]))).2⟩
        · have hjD : D.elem j = false := by rw [← hI.same j hjn hjL]; exact hun
          have hjp : j ∉ pre := fun hm => by
            have := hI.preD j hm
            simp [this] at hjD
          have hout : ∀ i ∈ L, ∃ oi, ops[i]? = some oi ∧ calm oi = true ∧ calm oj = true ∧ oi.apart ops oj = true := fun i hi => by
            obtain ⟨oi, hoi, ci⟩ := hcalmL i hi
            obtain ⟨c1, c2⟩ := (hp.out i (hI.sub.subset hi) j hjn hjp oi oj hoi hoj).resolve_left (noB i hi)
            exact ⟨oi, hoi, ci, c1, c2⟩
          have cj : calm oj = true := by obtain ⟨_, _, _, c, _⟩ := hout i0 hi0; exact c
          have hjr : j ∈ readyL ops.toList D := by
            unfold readyL
            rw [List.mem_map]
            refine ⟨(oj, j), ?_, rfl⟩
            rw [List.mem_filter, List.mem_zipIdx_iff_getElem?]
            refine ⟨by simpa using hoj, ?_⟩
            simp only [hjD, Bool.not_false, Bool.true_and, List.all_eq_true, Bool.or_eq_true, Bool.not_eq_true']
            intro e he
            cases hb : Region.binds .any e with
            | false => exact .inl rfl
            | true =>
              right
              have h1 := hall e (by simpa using he) hb
              have hlt := hp.edge j oj hoj e (by simpa using he) hb
              have hlt' : e.on < ops.size := by omega
              rw [getD_tf (by rw [hI.size]; exact hlt') false true] at h1
              rw [← hI.same e.on hlt' (fun hm => by rw [hI.un e.on hm] at h1; cases h1)]
              exact h1
          have hne : readyL ops.toList D ≠ [] := fun e => by rw [e] at hjr; simp at hjr
          have hstep : ∀ σ', aanyL (stdA P) ops m D σ' K → ∃ m', m = m' + 1 ∧ aopAt (stdA P) ops j σ' (fun σ' => aanyL (stdA P) ops m' (j :: D) σ' K) := by
            intro σ' h'
            cases m with
            | zero =>
              unfold aanyL at h'
              split at h'
              · rename_i hr; exact absurd hr hne
              · exact h'.elim
            | succ m' =>
              unfold aanyL at h'
              split at h'
              · rename_i hr; exact absurd hr hne
              · have := allOf_mem h' j hjr
                have ho' : ops.toList[j]? = some oj := by simpa using hoj
                simp only [ho'] at this
                refine ⟨m', rfl, ?_⟩
                simp only [aopAt, hoj]
                exact this
          cases m with
          | zero =>
            exfalso
            exact aopsAt_false L hcalmL hndL hp.dst (fun i hi => hfr i (hunL i hi)) (aopsAt_imp (fun σ' h' => by obtain ⟨m', hm', _⟩ := hstep σ' h'; omega) L hcalmL hndL hp.dst (fun i hi => hfr i (hunL i hi)) h)
          | succ m' =>
            refine ⟨cj, L, j :: D, m', by omega, ⟨by simp [hI.size], hI.sub, fun i hi => ?_, fun i hi => ?_, fun i hi => by simp [hI.preD i hi], fun i hi hiL => ?_, hcl⟩, ?_⟩
            · rw [getD_set_ne true (by rintro rfl; exact hjL hi)]
              exact hI.un i hi
            · rcases List.mem_cons.1 hi with rfl | hi
              · exact hjn
              · exact hI.lt i hi
            · by_cases hij : j = i
              · subst hij
                rw [hset]; simp
              · rw [getD_set_ne true hij, hI.same i hi hiL]
                simp [Ne.symm hij]
            · have h1 := aopsAt_imp (K' := fun σ' => aopAt (stdA P) ops j σ' (fun σ' => aanyL (stdA P) ops m' (j :: D) σ' K)) (fun σ' h' => by
                obtain ⟨m2, hm2, h2⟩ := hstep σ' h'
                have : m' = m2 := by omega
                subst this
                exact h2) L hcalmL hndL hp.dst (fun i hi => hfr i (hunL i hi)) h
              rw [← aopsAt_app] at h1
              have h2 := move_front (L2 := []) hoj cj L (fun i hi => by obtain ⟨oi, hoi, ci, _, c⟩ := hout i hi; exact ⟨oi, hoi, ci, c⟩) (by
                rw [List.nodup_append]
                exact ⟨hndL, by simp, fun a ha b hb => by rw [List.mem_singleton] at hb; subst hb; rintro rfl; exact hjL ha⟩) (fun i _ k _ hne oi ok hoi hok ci hm => hp.dst i k oi ok hne hoi hok ci hm) (fun i hi => hfr i (by
                rcases List.mem_append.1 hi with hi | hi
                · exact hunL i hi
                · rw [List.mem_singleton] at hi; subst hi; exact hunj)) h1
              refine calm_imp cj (hfr j hunj oj hoj cj) (fun σ' h' => ?_) h2
              have := h'.1
              rwa [List.append_nil] at this

theorem aopsP_at {K : St → Prop} : ∀ (L : List Nat) {σ : St}, (∀ i ∈ L, i < ops.size) → aopsP (stdA P) ops L σ K = aopsAt (stdA P) ops L σ K
  | [], _, _ => rfl
  | i :: L, σ, hl => by
    have hi := hl i (by simp)
    have h1 : ops[i]? = some ops[i] := Array.getElem?_eq_getElem hi
    have h2 : ops.toList[i]? = some ops[i] := by simp
    simp only [aopsP, h2, aopsAt, aopAt, h1]
    congr 1
    funext σ'
    exact aopsP_at L (fun k hk => hl k (by simp [hk]))

theorem drawP_ok (hT : TTok P) (hm : P.follows .mixedOrders = true) {M : Mp} {σ : St} {a : Act} {w : World} {K : St → Prop} {Q : Exit → Act → World → Prop} (hg : G E M σ a w) {id : Nat} {ops : Array Oper} {pre : List Nat} (hd : preOk ops pre = true)
    (h : retireL (stdA P) ops.toList σ (fun σ => aopsP (stdA P) ops pre σ (fun σ => aanyL (stdA P) ops (ops.toList.length - pre.length) pre σ K))) (hQ : ∀ a w, Nx E K a w → Q .normal a w) : (Code.region id ops true).wp P Q a w := by
  have hp := preOk_spec hd
  have hlen : pre.length ≤ ops.size := by
    unfold preOk at hd
    simp only [Bool.and_eq_true] at hd
    exact Nat.le_of_ble_eq_true hd.1.2.2
  have hlt : ∀ i ∈ pre, i < ops.size := fun i hi => by
    obtain ⟨o, ho, _⟩ := hp.calm i hi
    exact (Array.getElem?_eq_some_iff.1 ho).1
  have hrep : ∀ i, i < ops.size → (Array.replicate ops.size false).getD i true = false := fun i hi => by simp [hi]
  refine retireL_ok rfl (fun _ => False) hg (fun _ h => h.elim) h (fun M' σ' g' f' h' => ?_)
  refine wp_region_any hm ?_
  rw [aopsP_at pre hlt] at h'
  have hI : Inv ops pre (Array.replicate ops.size false) pre pre := ⟨by simp, List.Sublist.refl _, fun i hi => hrep i (hlt i hi), hlt, fun _ h => h, fun i hi hip => by rw [hrep i hi]; simp [hip], fun k o ho hk => by
    rw [hrep k (Array.getElem?_eq_some_iff.1 ho).1] at hk; cases hk⟩
  refine pre_main hT hp hQ _ _ pre pre (ops.toList.length - pre.length) (g'.world (w' := { w with drawn := w.drawn + 1 }) rfl rfl ⟨rfl, Nat.le_succ _⟩ rfl) (by simp; omega) hI (fun i hi o ho hc => f' o (.inr ⟨Array.mem_toList_iff.2 (Array.mem_of_getElem? ho), hc⟩)) h'

end Go.VAI

namespace Go.VAI
variable {E : Env} {P : Program}

/-- What is asked behind a piece of code. -/
def QK (E : Env) (K : Ex → St → Prop) : Exit → Act → World → Prop
  | .normal, a, w => Nx E (K .normal) a w
  | .exit i, a, w => Nx E (K (.exit i)) a w
  | .ret, a, w => Nx E (K .ret) a w
  | _, _, _ => False

theorem rounds_mono {c : Code} {Q : Exit → Act → World → Prop} : ∀ {n m : Nat}, n ≤ m → ∀ {a : Act} {w : World}, Code.rounds P c Q n a w → Code.rounds P c Q m a w
  | 0, _, _, _, _, h => h.elim
  | n + 1, 0, hle, _, _, _ => by omega
  | n + 1, m + 1, hle, a, w, h => by
    rw [rounds_succ] at h ⊢
    exact Code.wp_mono (fun e a w q => by cases e <;> first | exact rounds_mono (by omega) q | exact q) h

theorem awp_ok {D : List (Nat × List Nat)} (hT : TTok P) (hm : P.follows .mixedOrders = true) : ∀ (c : Code) {M : Mp} {σ : St} {a : Act} {w : World} {K : Ex → St → Prop}, drawsOk D c = true → G E M σ a w → awp (stdA P) D c K σ → c.wp P (QK E K) a w
  | .skip, M, σ, a, w, K, hd, hg, h => wp_skip ⟨M, σ, hg, h⟩
  | .region id ops false, M, σ, a, w, K, hd, hg, h => wp_region_list (aops_ok (Q := QK E K) hT hg h (fun _ _ hh => hh))
  | .region id ops true, M, σ, a, w, K, hd, hg, h => by
    simp only [awp] at h
    simp only [drawsOk] at hd
    split at h
    · rename_i pre hp
      rw [hp] at hd
      exact drawP_ok hT hm hg hd h (fun _ _ hh => hh)
    · rename_i hp
      rw [hp] at hd
      exact draw_ok hT hm hg hd h (fun _ _ hh => hh)
  | .seq x y, M, σ, a, w, K, hd, hg, h => by
    simp only [drawsOk, Bool.and_eq_true] at hd
    refine wp_seq (Code.wp_mono ?_ (awp_ok hT hm x hd.1 hg h))
    intro e a w q
    cases e with
    | normal => obtain ⟨M', σ', hg', h'⟩ := q; exact awp_ok hT hm y hd.2 hg' h'
    | exit i => exact q
    | ret => exact q
    | goto l => exact q.elim
    | panic c => exact q.elim
    | outgrown => exact q.elim
  | .cond c x y, M, σ, a, w, K, hd, hg, h => by
    simp only [drawsOk, Bool.and_eq_true] at hd
    simp only [awp] at h
    split at h
    · rename_i t ht
      have hv := boolOf_val ht (eval_cl hg c)
      refine wp_cond hv ?_
      cases t with
      | true => exact awp_ok hT hm x hd.1 hg h
      | false => exact awp_ok hT hm y hd.2 hg h
    · exact h.elim
  | .block id c, M, σ, a, w, K, hd, hg, h => by
    refine wp_block (Code.wp_mono ?_ (awp_ok hT hm c hd hg h))
    intro e a w q
    cases e with
    | normal => exact q
    | exit i =>
      obtain ⟨M', σ', hg', h'⟩ := q
      simp only [Exit.inBlock]
      split
      · rename_i hi; simp only [hi, if_true] at h'; exact ⟨M', σ', hg', h'⟩
      · rename_i hi; simp only [hi, if_false] at h'; exact ⟨M', σ', hg', h'⟩
    | ret => exact q
    | goto l => exact q.elim
    | panic c => exact q.elim
    | outgrown => exact q.elim
  | .loop c, M, σ, a, w, K, hd, hg, h => by
    obtain ⟨I, n, h0, hstep⟩ := h
    have key : ∀ n a w, (∃ M σ m, m ≤ n ∧ G E M σ a w ∧ I m σ) → Code.rounds P c (QK E K) (n + 1) a w := by
      intro n
      induction n with
      | zero =>
        intro a w ⟨M, σ, m, hm', hg, hI⟩
        rw [rounds_succ]
        refine Code.wp_mono ?_ (awp_ok hT hm c hd hg (hstep m σ hI))
        intro e a w q
        cases e with
        | normal => obtain ⟨M', σ', hg', m', hlt, _⟩ := q; omega
        | exit i => exact q
        | ret => exact q
        | goto l => exact q.elim
        | panic c => exact q.elim
        | outgrown => exact q.elim
      | succ n ih =>
        intro a w ⟨M, σ, m, hm', hg, hI⟩
        rw [rounds_succ]
        refine Code.wp_mono ?_ (awp_ok hT hm c hd hg (hstep m σ hI))
        intro e a w q
        cases e with
        | normal => obtain ⟨M', σ', hg', m', hlt, hI'⟩ := q; exact ih a w ⟨M', σ', m', by omega, hg', hI'⟩
        | exit i => exact q
        | ret => exact q
        | goto l => exact q.elim
        | panic c => exact q.elim
        | outgrown => exact q.elim
    exact wp_loop_rounds (n + 1) (key n a w ⟨M, σ, n, Nat.le_refl _, hg, h0⟩)
  | .exit id, M, σ, a, w, K, hd, hg, h => wp_exit ⟨M, σ, hg, h⟩
  | .ret, M, σ, a, w, K, hd, hg, h => wp_ret ⟨M, σ, hg, h⟩
  | .label _, _, _, _, _, _, _, _, h => h.elim
  | .goto _, _, _, _, _, _, _, _, h => h.elim
  | .scope _, _, _, _, _, _, _, _, h => h.elim
  | .refuse _, _, _, _, _, _, _, _, h => h.elim
  | .rangeFunc .., _, _, _, _, _, _, _, h => h.elim
end Go.VAI

namespace Go.VAI
variable {E : Env} {P : Program}

section res
variable {M : Mp} {σ : St} {a : Act} {w : World}

theorem out1_ok (hg : G E M σ a w) {s : Slot} {r : RS} (h : out1 (stdA P) σ s = some r) {v : Value} (hc : Cl1 E M σ w s v) :
    ∃ I : List Nat, I.Sublist (gives1 σ s) ∧ (∀ i ∈ I, M.κ (M.blk i) = some i) ∧ ∀ ok : Nat → Prop, (∀ bs F, (∀ i ∈ bs, i ∈ keeps1 σ s) → Good E M w bs F → ∀ b ∈ F, ok b) → RCl1 w ok r v (I.map M.blk) := by
  unfold out1 at h
  split at h
  · rename_i r0 bs
    cases h
    obtain ⟨F, h1, h2⟩ := hc
    exact ⟨[], by simp, by simp, fun ok hok => ⟨rfl, F, h1, hok bs F (fun i hi => hi) h2⟩⟩
  · rename_i id
    split at h
    · rename_i es sz u hf
      cases h
      obtain ⟨a0, cap, rfl, h1, h2, h3, h4⟩ := hc _ _ _ _ hf
      obtain ⟨k0, k1, k2, F, k3, k4⟩ := hg.files _ _ hf
      have hoff := k0 rfl
      by_cases hcap : cap = 0
      · have hes : es = [] := by apply List.eq_nil_of_length_eq_zero; clear h4; omega
        subst hes; subst hcap
        exact ⟨[], by simp, by simp, fun ok hok => .inr ⟨rfl, rfl, a0, rfl⟩⟩
      · obtain ⟨rfl, g1, c, e, g2, g3⟩ := h4 hcap
        refine ⟨[id], by simp [gives1, hf], fun b hb => ?_, fun ok hok => .inl ⟨M.blk id, c, e, cap, F, rfl, by simp [hoff], h1, hcap, g2, by simpa [hoff] using g3, by rw [hoff] at k3; exact k3, fun hu => by subst hu; exact k4, ?_⟩⟩
        · simp only [List.mem_singleton] at hb; subst hb; exact g1
        · cases u with
          | free => simp only [GoodU] at k4; subst k4; simp
          | sh bs => exact hok bs F (fun i hi => by simp [keeps1, hf, rubs, hi]) k4
    · rename_i es sz u hf
      cases h
      obtain ⟨F, f1, f2⟩ := Hdr.rep hg hf (hc _ _ _ _ hf)
      rw [sub_full] at f1
      exact ⟨[], by simp, by simp, fun ok hok => ⟨rfl, F, f1, hok (id :: rubs u) F (fun i hi => by simpa [keeps1, hf] using hi) f2⟩⟩
    · cases h
  · rename_i id l
    split at h
    · rename_i es sz u hf
      cases h
      obtain ⟨a0, cap, rfl, h1, h2, h3, h4⟩ := hc _ _ _ _ hf
      obtain ⟨k0, k1, k2, F, k3, k4⟩ := hg.files _ _ hf
      have hoff := k0 rfl
      have hsub : (stdA P).sub es 0 l = es.take l := by show (es.drop 0).take l = _; rw [List.drop_zero]
      have hlen : (es.take l).length = l := by rw [List.length_take]; clear h4; omega
      rw [hsub]
      by_cases hcap : cap = 0
      · have hl : l = 0 := by clear h4; omega
        subst hl; subst hcap
        exact ⟨[], by simp, by simp, fun ok hok => .inr ⟨rfl, by simp, a0, rfl⟩⟩
      · obtain ⟨rfl, g1, c, e, g2, g3⟩ := h4 hcap
        obtain ⟨F', f1, f2⟩ := k3.take l
        refine ⟨[id], by simp [gives1, hf], fun b hb => ?_, fun ok hok => .inl ⟨M.blk id, c, e, cap, F', rfl, by simp [hoff, hlen], by rw [hlen]; exact h1, hcap, g2, by simpa [hoff] using g3, by rw [hoff] at f1; exact f1, fun hu => ?_, ?_⟩⟩
        · simp only [List.mem_singleton] at hb; subst hb; exact g1
        · subst hu
          simp only [GoodU] at k4; subst k4
          exact List.eq_nil_iff_forall_not_mem.2 (fun c hc => by have := f2 c hc; simp at this)
        · cases u with
          | free =>
            simp only [GoodU] at k4; subst k4
            intro b hb; have := f2 b hb; simp at this
          | sh bs => intro b hb; exact hok bs F (fun i hi => by simp [keeps1, hf, rubs, hi]) k4 b (f2 b hb)
    · rename_i es sz u hf
      cases h
      obtain ⟨F, f1, f2⟩ := Hdr.rep hg hf (hc _ _ _ _ hf)
      exact ⟨[], by simp, by simp, fun ok hok => ⟨rfl, F, f1, hok (id :: rubs u) F (fun i hi => by simpa [keeps1, hf] using hi) f2⟩⟩
    · cases h
  · rename_i id o l hno
    split at h
    · rename_i es sz u io hf
      cases h
      obtain ⟨F, f1, f2⟩ := Hdr.rep hg hf (hc _ _ _ _ hf)
      exact ⟨[], by simp, by simp, fun ok hok => ⟨rfl, F, f1, hok (id :: rubs u) F (fun i hi => by
        match o, hno with
        | 0, hno => exact (hno rfl).elim
        | o + 1, _ => cases io <;> simpa [keeps1, hf] using hi) f2⟩⟩
    · cases h
  · cases h

theorem outL_ok {f : Slot → Option RS} {gv kp : Slot → List Nat} {C : Slot → Value → Prop} {R : (Nat → Prop) → RS → Value → List Nat → Prop}
    (hf : ∀ s r v, f s = some r → C s v → ∃ I : List Nat, I.Sublist (gv s) ∧ (∀ i ∈ I, M.κ (M.blk i) = some i) ∧ ∀ ok : Nat → Prop, (∀ bs F, (∀ i ∈ bs, i ∈ kp s) → Good E M w bs F → ∀ b ∈ F, ok b) → R ok r v (I.map M.blk)) :
    ∀ {ls : List Slot} {xs : List RS} {vs : List Value}, optAll f ls = some xs → All2 C ls vs →
      ∃ I : List Nat, I.Sublist (ls.flatMap gv) ∧ (∀ i ∈ I, M.κ (M.blk i) = some i) ∧ ∀ ok : Nat → Prop, (∀ bs F, (∀ i ∈ bs, i ∈ ls.flatMap kp) → Good E M w bs F → ∀ b ∈ F, ok b) → RAll (R ok) xs vs (I.map M.blk)
  | [], xs, vs, h, hc => by cases hc; simp [optAll] at h; subst h; exact ⟨[], by simp, by simp, fun _ _ => .nil⟩
  | s :: ls, xs, vs, h, hc => by
    cases hc with
    | cons h1 t =>
      simp only [optAll] at h
      split at h
      · rename_i y hy
        split at h
        · rename_i ys hys
          cases h
          obtain ⟨N1, a1, a2, a3⟩ := hf _ _ _ hy h1
          obtain ⟨N2, b1, b2, b3⟩ := outL_ok hf hys t
          refine ⟨N1 ++ N2, by rw [List.flatMap_cons]; exact a1.append b1, fun b hb => ?_, fun ok hok => by
            rw [List.map_append]
            exact .cons (a3 ok (fun bs F hbs => hok bs F (fun i hi => by rw [List.flatMap_cons]; exact List.mem_append_left _ (hbs i hi)))) (b3 ok (fun bs F hbs => hok bs F (fun i hi => by rw [List.flatMap_cons]; exact List.mem_append_right _ (hbs i hi))))⟩
          · rcases List.mem_append.1 hb with hb | hb
            · exact a2 b hb
            · exact b2 b hb
        · cases h
      · cases h

theorem out2_ok (hg : G E M σ a w) {s : Slot} {r : RS} (h : out2 (stdA P) σ s = some r) {v : Value} (hc : ClS E M σ w s v) :
    ∃ I : List Nat, I.Sublist (gives σ s) ∧ (∀ i ∈ I, M.κ (M.blk i) = some i) ∧ ∀ ok : Nat → Prop, (∀ bs F, (∀ i ∈ bs, i ∈ keeps σ s) → Good E M w bs F → ∀ b ∈ F, ok b) → RCl2 w ok r v (I.map M.blk) := by
  have one : ∀ {s : Slot}, Cl1 E M σ w s v → out1 (stdA P) σ s = some r → ∃ I : List Nat, I.Sublist (gives1 σ s) ∧ (∀ i ∈ I, M.κ (M.blk i) = some i) ∧ ∀ ok : Nat → Prop, (∀ bs F, (∀ i ∈ bs, i ∈ keeps1 σ s) → Good E M w bs F → ∀ b ∈ F, ok b) → RCl2 w ok r v (I.map M.blk) := by
    intro s hc h
    obtain ⟨N, h1, h2, h3⟩ := out1_ok hg h hc
    refine ⟨N, h1, h2, fun ok hok => ?_⟩
    have := h3 ok hok
    cases r with
    | ag ls => exact this.elim
    | _ => exact this
  cases s with
  | ag ls =>
    simp only [out2] at h
    split at h
    · rename_i xs hx
      cases h
      obtain ⟨cs, rfl, hc⟩ := hc
      obtain ⟨N, h1, h2, h3⟩ := outL_ok (E := E) (M := M) (w := w) (R := RCl1 w) (fun s r v h hc => out1_ok hg h hc) hx hc
      exact ⟨N, h1, h2, fun ok hok => ⟨cs, rfl, h3 ok hok⟩⟩
    · cases h
  | pv r0 bs => exact one (s := .pv r0 bs) hc h
  | own id sub => exact one (s := .own id sub) hc h
  | ref id o => simp [out2, out1] at h
  | rref id i o => simp [out2, out1] at h
  | clo f ls => simp [out2, out1] at h
  | tup ls => simp [out2, out1] at h
  | undef => simp [out2, out1] at h
  | dead => simp [out2, out1] at h

def resOne (tmps : Array Value) : ResultVar → Sem Value
  | .tmp t => pure (tmps.getD t undef)
  | .cell a t => do loadVar t (← asAddr (tmps.getD a undef))

theorem resSlot_ok (hT : TTok P) (hg : G E M σ a w) {r : ResultVar} {s : Slot} (h : resSlot σ r = some s) : ∃ v, (resOne a.tmps r).run P w = .ok v w ∧ ClS E M σ w s v := by
  unfold resSlot at h
  split at h
  · rename_i t
    cases h
    exact ⟨a.tmps.getD t undef, rfl, hg.slots t⟩
  · rename_i p t
    split at h
    · rename_i id i hs ht
      split at h
      · rename_i ls hf
        split at h
        · rename_i hlen
          obtain ⟨k1, c, e, k2, k3⟩ := hg.files _ _ hf
          have hp := hg.slots p
          rw [hs] at hp
          have hv := hp _ hf
          have hcl : c.toList.length = ls.length := k3.length.symm
          have k5 : All2 (Cl1 E M σ w) ls c.toList := by
            have := k3.imp (g := fun x => x) (q := Cl1 E M σ w) (fun s v hc => by
              rcases hc with hc | rfl
              · exact hc.1
              · exact trivial)
            rw [List.map_id'] at this; exact this
          obtain ⟨l1, l2⟩ := run_loadAt (P := P) (w := w) (b := M.blk id) (o := 0) hT ht (cs := c.toList) (by omega) (fun j v hj => by
            have := All2.cells k2 0 j v (by simpa using hj)
            exact this)
          have hrun : ∀ v, (Instr.loadAt t (.pointer (some ⟨M.blk id, 0, none⟩))).run P w = .ok v w → (resOne a.tmps (.cell p t)).run P w = .ok v w := by
            intro v hh
            simp only [resOne, hv, Sem.run_bind, asAddr] 
            simp [Instr.loadAt, Instr.sureAddr] at hh
            simpa using hh
          cases hag : i.ag with
          | true =>
            simp only [ofSleaves, hag, if_true] at h
            cases h
            exact ⟨_, hrun _ (l1 hag), _, rfl, k5⟩
          | false =>
            obtain ⟨v, hv1, l2'⟩ := l2 hag
            rw [hv1] at k5
            rw [hag] at h
            match ls, k5 with
            | [y], .cons hy _ =>
              have := ofSleaves_one h
              subst this
              exact ⟨v, hrun v l2', ClS.of1 hy⟩
        · cases h
      · cases h
    · cases h

theorem resL_ok (hT : TTok P) (hg : G E M σ a w) : ∀ {rs : List ResultVar} {ss : List Slot}, optAll (resSlot σ) rs = some ss → ∃ vs, (rs.mapM (resOne a.tmps)).run P w = .ok vs w ∧ All2 (ClS E M σ w) ss vs
  | [], ss, h => by simp [optAll] at h; subst h; exact ⟨[], by simp, .nil⟩
  | r :: rs, ss, h => by
    simp only [optAll] at h
    split at h
    · rename_i y hy
      split at h
      · rename_i ys hys
        cases h
        obtain ⟨v, v1, v2⟩ := resSlot_ok hT hg hy
        obtain ⟨vs, w1, w2⟩ := resL_ok hT hg hys
        exact ⟨v :: vs, by simp [List.mapM_cons, v1, w1], .cons v2 w2⟩
      · cases h
    · cases h

theorem results_ok (hT : TTok P) (hg : G E M σ a w) {fn : Func} {rs : RS} (h : resultS (stdA P) σ fn.results.toList = some rs) {Feet : Nat → Prop} {V : Nat → Nat → Nat → Value → Prop} (hV : ∀ id es sz u o l v, σ.files id = some (.row es sz u true) → Hdr M w id es.length sz o l v → rs = .vw id o l → V id o l v) (hF1 : ∀ b, E.R b → Feet b) (hF2 : ∀ i b q, E.io i = some (b, q) → Feet b) :
    ∃ v N, (results fn a.tmps).run P w = .ok v w ∧ N.Nodup ∧ (∀ b ∈ N, E.w0.heap.size ≤ b ∧ b < w.heap.size) ∧ RClS w V (fun b => b < w.heap.size ∧ b ∉ N ∧ (E.w0.heap.size ≤ b ∨ Feet b)) rs v N := by
  unfold resultS at h
  split at h
  · rename_i ss hss
    obtain ⟨vs, r1, r2⟩ := resL_ok hT hg hss
    have hrun : (results fn a.tmps).run P w = .ok (if h : (⟨vs⟩ : Array Value).size = 1 then (⟨vs⟩ : Array Value)[0] else .tuple ⟨vs⟩) w := by
      have e : results fn a.tmps = (do let vs ← fn.results.mapM (resOne a.tmps); pure (if h : vs.size = 1 then vs[0] else .tuple vs)) := by
        unfold results
        congr 1
      rw [e, Array.mapM_eq_mapM_toList]
      simp [r1]
    split at h
    · rename_i r hvw
      cases h
      unfold vwOf at hvw
      split at hvw
      · rename_i id sub
        split at hvw
        · rename_i es sz u hf
          cases r2 with
          | cons h1 tl =>
            cases tl
            rename_i v
            cases sub with
            | none =>
              cases hvw
              exact ⟨v, [], by rw [hrun]; rfl, by simp, by simp, rfl, hV id es sz u 0 es.length v hf (h1 _ _ _ _ hf) rfl⟩
            | some q =>
              obtain ⟨o, l⟩ := q
              cases hvw
              exact ⟨v, [], by rw [hrun]; rfl, by simp, by simp, rfl, hV id es sz u o l v hf (h1 _ _ _ _ hf) rfl⟩
        · cases hvw
      · cases hvw
    rename_i hnvw
    split at h
    · rename_i hcond
      obtain ⟨hnod, hdis⟩ := hcond
      -- the parts
      have hdis' : ∀ i ∈ ss.flatMap (keeps σ), i ∉ ss.flatMap (gives σ) := by
        intro i hi
        have := List.all_eq_true.1 hdis i hi
        simpa using this
      have parts : ∀ {xs : List RS}, optAll (out2 (stdA P) σ) ss = some xs → ∃ N : List Nat, N.Nodup ∧ (∀ b ∈ N, E.w0.heap.size ≤ b ∧ b < w.heap.size) ∧ RAll (RCl2 w (fun b => b < w.heap.size ∧ b ∉ N ∧ (E.w0.heap.size ≤ b ∨ Feet b))) xs vs N := by
        intro xs hxs
        obtain ⟨I, n1, n2, n3⟩ := outL_ok (E := E) (M := M) (w := w) (R := RCl2 w) (fun s r v h hc => out2_ok hg h hc) hxs r2
        have hN : ∀ b ∈ I.map M.blk, ∃ i ∈ ss.flatMap (gives σ), M.κ b = some i ∧ b = M.blk i := fun b hb => by
          obtain ⟨i, hi, rfl⟩ := List.mem_map.1 hb
          exact ⟨i, n1.subset hi, n2 i hi, rfl⟩
        have hgio : ∀ i ∈ ss.flatMap (gives σ), ∃ es sz u, σ.files i = some (.row es sz u false) := by
          intro i hi
          obtain ⟨s, _, hs⟩ := List.mem_flatMap.1 hi
          have g1 : ∀ s, i ∈ gives1 σ s → ∃ es sz u, σ.files i = some (.row es sz u false) := by
            intro s hs
            unfold gives1 at hs
            split at hs
            · split at hs
              · rename_i hf; simp at hs; subst hs; exact ⟨_, _, _, hf⟩
              · simp at hs
            · split at hs
              · rename_i hf; simp at hs; subst hs; exact ⟨_, _, _, hf⟩
              · simp at hs
            · simp at hs
          cases s with
          | ag ls => simp only [gives] at hs; obtain ⟨s', _, hs'⟩ := List.mem_flatMap.1 hs; exact g1 s' hs'
          | pv r bs => exact g1 (.pv r bs) hs
          | own i' sub => exact g1 (.own i' sub) hs
          | ref i' o => exact g1 (.ref i' o) hs
          | rref i' x o => exact g1 (.rref i' x o) hs
          | clo f ls => exact g1 (.clo f ls) hs
          | tup ls => exact g1 (.tup ls) hs
          | undef => exact g1 .undef hs
          | dead => exact g1 .dead hs
        refine ⟨I.map M.blk, ?_, fun b hb => ?_, n3 _ (fun bs F hbs hG b hb => ?_)⟩
        · have hI : I.Nodup := n1.nodup hnod
          have : ∀ l : List Nat, l.Nodup → (∀ i ∈ l, M.κ (M.blk i) = some i) → (l.map M.blk).Nodup := by
            intro l
            induction l with
            | nil => intro _ _; simp
            | cons i l ih =>
              intro hn hk
              simp only [List.nodup_cons] at hn
              simp only [List.map_cons, List.nodup_cons]
              refine ⟨fun hm => ?_, ih hn.2 (fun j hj => hk j (by simp [hj]))⟩
              obtain ⟨j, hj, e⟩ := List.mem_map.1 hm
              have h1 := hk i (by simp)
              have h2 := hk j (by simp [hj])
              rw [e, h1] at h2
              cases h2
              exact hn.1 hj
          exact this I hI n2
        · obtain ⟨i, hi, hk, _⟩ := hN b hb
          refine ⟨?_, (hg.own _ _ hk).1⟩
          rcases Nat.lt_or_ge b E.w0.heap.size with hlt | hge
          · obtain ⟨q, hq⟩ := hg.lent b i hlt hk
            obtain ⟨o, n, sz⟩ := q
            obtain ⟨⟨es, hf, _⟩, _⟩ := hg.io _ _ _ _ _ hq
            obtain ⟨es', sz', u', hf'⟩ := hgio i hi
            rw [hf] at hf'; cases hf'
          · exact hge
        · obtain ⟨g1, g2⟩ := hG b hb
          rcases g2 with ⟨g2, g3⟩ | ⟨i, hi, g2⟩
          · refine ⟨g1, fun hbN => ?_, g3.imp (fun h => h) (hF1 b)⟩
            obtain ⟨i, _, hk, _⟩ := hN b hbN
            rw [hk] at g2; cases g2
          · refine ⟨g1, fun hbN => ?_, ?_⟩
            · obtain ⟨j, hj, hk, _⟩ := hN b hbN
              rw [hk] at g2; cases g2
              exact hdis' _ (hbs _ hi) hj
            · rcases Nat.lt_or_ge b E.w0.heap.size with hlt | hge
              · obtain ⟨q, hq⟩ := hg.lent b i hlt g2
                exact .inr (hF2 i b q hq)
              · exact .inl hge
      split at h
      · rename_i x hx
        cases h
        obtain ⟨N, p1, p2, p3⟩ := parts hx
        cases p3 with
        | cons h1 tl =>
          rename_i v N1 vs' N2
          cases tl
          simp only [List.append_nil] at p1 p2 h1
          refine ⟨v, N1, by rw [hrun]; rfl, p1, p2, ?_⟩
          cases rs with
          | tup ls => exact h1.elim
          | pv r => exact h1
          | row es sz u => exact h1
          | ag ls => exact h1
          | vw p o l => exact h1.elim
      · rename_i xs hne hx
        cases h
        obtain ⟨N, p1, p2, p3⟩ := parts hx
        have hlen : vs.length ≠ 1 := by
          intro hl
          cases p3 with
          | nil => simp at hl
          | cons h1 tl =>
            cases tl with
            | nil => exact hne _ rfl
            | cons h2 tl => simp at hl
        refine ⟨.tuple ⟨vs⟩, N, ?_, p1, p2, vs, rfl, p3⟩
        rw [hrun, dif_neg (by simpa using hlen)]
      · cases h
    · cases h
  · cases h

end res
end Go.VAI

namespace Go.VAI
variable {P : Program}

/-- The call's surroundings. -/
def envOf (f : FuncId) (w : World) (vs : List Value) (Fs : List (List Nat)) (hsm : ∀ k ∈ inout f, k < ioMax ∧ k < 4096) : Env where
  w0 := w
  R := Feet f vs Fs
  io id := if id ∈ inout f then (match vs[id]? with
    | some (.slice (some a) l cap) => if cap = 0 then none else some (a.block, a.off, l, ioSz f)
    | _ => none) else none
  small id q h := by
    split at h
    · rename_i hi; exact hsm id hi
    · cases h

theorem start_ok {f : FuncId} {w : World} {args : List PV} {vs : List Value} {Fs : List (List Nat)} (hok : ArgsOk P f w args vs Fs) (hone : inout f = [] ∨ ∃ p, inout f = [p]) {n : Nat} (hn : args.length ≤ n) (ps : List Nat) {σ : St} (hσ : σ = start n ps (inout f) (ioSz f) args)
    (hps : ∀ p ∈ inout f, ∃ es, args[p]? = some (.sl es) ∧ σ.files p = some (.row es (ioSz f) .free true)) :
    ∃ M, G (envOf f w vs Fs (fun k hk => (hok.io k hk).2)) M σ { tmps := (⟨vs⟩ : Array Value) ++ Array.replicate (n - vs.length) undef, defers := [] } w := by
  generalize hE : envOf f w vs Fs (fun k hk => (hok.io k hk).2) = E
  have hw0 : E.w0 = w := by rw [← hE]; rfl
  have hR : E.R = Feet f vs Fs := by rw [← hE]; rfl
  have hio : ∀ id q, E.io id = some q ↔ id ∈ inout f ∧ ∃ a l cap, vs[id]? = some (.slice (some a) l cap) ∧ cap ≠ 0 ∧ q = (a.block, a.off, l, ioSz f) := by
    intro id q
    rw [← hE]
    simp only [envOf]
    by_cases hi : id ∈ inout f
    · rw [if_pos hi]
      cases hv : vs[id]? with
      | none => simp
      | some v =>
        cases v with
        | slice a l cap =>
          cases a with
          | none => simp
          | some a =>
            by_cases hc : cap = 0
            · simp [hc]
            · simp only [if_neg hc, Option.some.injEq]
              constructor
              · intro e; exact ⟨hi, a, l, cap, rfl, hc, e.symm⟩
              · rintro ⟨_, a', l', cap', e1, _, e2⟩; cases e1; exact e2.symm
        | _ => simp
    · rw [if_neg hi]; simp [hi]
  -- the map
  let M : Mp := { κ := fun b => (inout f).find? (fun p => (match vs[p]? with | some v => blockOf v == some b | none => false)),
                  blk := fun p => (match vs[p]? with | some (.slice (some a) _ _) => a.block | _ => 0),
                  off := fun p => if p ∈ inout f then (match vs[p]? with | some (.slice (some a) _ _) => a.off | _ => 0) else 0 }
  have hκ : ∀ b p, M.κ b = some p → p ∈ inout f ∧ ∃ v, vs[p]? = some v ∧ blockOf v = some b := by
    intro b p h
    have h1 := List.mem_of_find?_eq_some h
    have h2 := List.find?_some h
    refine ⟨h1, ?_⟩
    cases hv : vs[p]? with
    | none => rw [hv] at h2; cases h2
    | some v => rw [hv] at h2; exact ⟨v, rfl, by simpa using h2⟩
  have hκ2 : ∀ b p v, p ∈ inout f → vs[p]? = some v → blockOf v = some b → M.κ b = some p := by
    intro b p v hp hv hb
    rcases hone with e | ⟨p', e⟩
    · rw [e] at hp; simp at hp
    · show (inout f).find? (fun p => (match vs[p]? with | some v => blockOf v == some b | none => false)) = some p
      rw [e] at hp ⊢
      simp only [List.mem_singleton] at hp
      subst hp
      simp [hv, hb]
  have hblk : ∀ v b, blockOf v = some b → ∃ a l cap, v = .slice (some a) l cap ∧ cap ≠ 0 ∧ a.block = b := by
    intro v b h
    unfold blockOf at h
    split at h
    · rename_i a l cap
      split at h
      · cases h
      · rename_i hc; cases h; exact ⟨a, l, cap, rfl, hc, rfl⟩
    · cases h
  have hlent : ∀ p v, p ∈ inout f → vs[p]? = some v → ∃ r, args[p]? = some r ∧ Lent w (ioSz f) r v := by
    intro p v hp hv
    have hlt := (hok.io p hp).1
    exact ⟨args[p], List.getElem?_eq_getElem hlt, hok.lent p _ v (List.getElem?_eq_getElem hlt) hv hp⟩
  -- of a lent row
  have hrow : ∀ p, p ∈ inout f → ∃ es v, args[p]? = some (.sl es) ∧ vs[p]? = some v ∧ Lent w (ioSz f) (.sl es) v ∧ σ.files p = some (.row es (ioSz f) .free true) := by
    intro p hp
    obtain ⟨es, h1, h2⟩ := hps p hp
    have hlt := (hok.io p hp).1
    have hv : vs[p]? = some (vs[p]'(by rw [hok.len]; exact hlt)) := List.getElem?_eq_getElem _
    obtain ⟨r, h3, h4⟩ := hlent p _ hp hv
    rw [h1] at h3; cases h3
    exact ⟨es, _, h1, hv, h4, h2⟩
  have hfiles : ∀ id g, σ.files id = some g → id ∈ inout f := by
    intro id g h
    rw [hσ] at h
    simp only [start] at h
    split at h
    · rename_i hh; simpa using hh
    · cases h
  have hdr : ∀ p es v, p ∈ inout f → vs[p]? = some v → Lent w (ioSz f) (.sl es) v → Hdr M w p es.length (ioSz f) 0 es.length v := by
    intro p es v hp hv hl
    obtain ⟨es', a, cap, e1, rfl, h2, h3⟩ := hl
    cases e1
    refine ⟨a, cap, rfl, h2, by omega, by omega, fun hc => ?_⟩
    obtain ⟨b, o, c, e, rfl, h4, h5, h6⟩ := h3 hc
    have hb : M.blk p = b := by show (match vs[p]? with | some (.slice (some a) _ _) => a.block | _ => 0) = b; rw [hv]
    have ho : M.off p = o := by show (if p ∈ inout f then (match vs[p]? with | some (.slice (some a) _ _) => a.off | _ => 0) else 0) = o; rw [if_pos hp, hv]
    refine ⟨by rw [hb, ho]; simp, by rw [hb]; exact hκ2 b p _ hp hv (by simp [blockOf, hc]), c, e, by rw [hb]; exact h4, by rw [ho]; simpa using h5⟩
  have hiob : ∀ b id, M.κ b = some id → b < w.heap.size := by
    intro b id h
    obtain ⟨hp, v, hv, hb⟩ := hκ b id h
    obtain ⟨r, h1, h2⟩ := hlent id v hp hv
    obtain ⟨es, a, cap, e1, rfl, q2, q3⟩ := h2
    obtain ⟨a', l', cap', e2, hc, e3⟩ := hblk _ _ hb
    cases e2
    obtain ⟨b', o, c, e, e4, h4, _⟩ := q3 hc
    cases e4
    cases e3
    exact (Array.getElem?_eq_some_iff.1 h4).1
  refine ⟨M, ?_⟩
  refine { iob := fun id _ _ _ b _ hk => by rw [hw0]; exact hiob b id hk, slots := fun k => ?_, tmps := ?_, files := fun id g hg => ?_, defers := rfl, own := fun b id h => ?_, lent := fun b id hb h => ?_, frame := fun b hb _ => by rw [hw0], size := by rw [hw0]; exact Nat.le_refl _, os := by rw [hw0], tape := by rw [hw0]; exact TapeLe.rfl', out := by rw [hw0], io := fun id b o nn sz h => ?_ }
  · -- slots
    have hget : ((⟨vs⟩ : Array Value) ++ Array.replicate (n - vs.length) undef).getD k undef = vs.getD k undef := by
      rw [Array.getD_eq_getD_getElem?, List.getD_eq_getElem?_getD]
      by_cases hk : k < vs.length
      · rw [Array.getElem?_append_left (by simpa using hk)]; simp
      · rw [Array.getElem?_append_right (by simpa using hk), List.getElem?_eq_none (by omega)]
        simp only [Array.getElem?_replicate]
        split <;> rfl
    show ClS E M σ w (σ.slots k) (((⟨vs⟩ : Array Value) ++ Array.replicate (n - vs.length) undef).getD k undef)
    rw [hget]
    by_cases hk : k < args.length
    · have hv : vs[k]? = some (vs[k]'(by rw [hok.len]; exact hk)) := List.getElem?_eq_getElem _
      have hr : args[k]? = some (args[k]) := List.getElem?_eq_getElem _
      have hF : Fs[k]? = some (Fs[k]'(by rw [hok.lenF]; exact hk)) := List.getElem?_eq_getElem _
      rw [List.getD_eq_getElem?_getD, hv, Option.getD_some]
      by_cases hi : k ∈ inout f
      · have hs : σ.slots k = .own k none := by rw [hσ]; simp [start, hk, hi]
        rw [hs]
        obtain ⟨es, v, h1, h2, h3, h4⟩ := hrow k hi
        intro es' sz' u' io' hf
        rw [h4] at hf; cases hf
        rw [hv] at h2; cases h2
        exact hdr k es _ hi hv h3
      · have hs : σ.slots k = .pv args[k] [] := by rw [hσ]; simp [start, hk, hi, List.getD_eq_getElem?_getD]
        rw [hs]
        obtain ⟨h1, h2, h3⟩ := hok.rep k _ _ _ hr hv hF hi
        refine ⟨_, h1, fun b hb => ⟨h2 b hb, .inl ⟨?_, .inr ?_⟩⟩⟩
        · cases hq : M.κ b with
          | none => rfl
          | some p =>
            obtain ⟨hp, v, hv', hb'⟩ := hκ b p hq
            exact absurd hb (h3 p v b hp hv' hb')
        · rw [hR]; exact .inl ⟨k, _, hF, hi, hb⟩
    · have hs : σ.slots k = .undef := by rw [hσ]; simp [start, hk]
      rw [hs, List.getD_eq_getElem?_getD, List.getElem?_eq_none (by rw [hok.len]; omega)]
      rfl
  · have : σ.n = n := by rw [hσ]; rfl
    rw [this]; simp [hok.len]; omega
  · have hi := hfiles id g hg
    obtain ⟨es, v, h1, h2, h3, h4⟩ := hrow id hi
    rw [h4] at hg; cases hg
    refine ⟨fun h => (by cases h), by simp [rubs], fun hes => ?_, ?_⟩
    · obtain ⟨a, cap, e1, q1, q2, q3, q4⟩ := hdr id es v hi h2 h3
      have hcap : cap ≠ 0 := by
        intro hc; subst hc
        apply hes; apply List.eq_nil_of_length_eq_zero; clear q4; omega
      obtain ⟨_, k1, c, e, k2, _⟩ := q4 hcap
      exact ⟨k1, c, e, k2⟩
    · obtain ⟨es', a, cap, e1, rfl, q2, q3⟩ := h3
      cases e1
      by_cases hcap : cap = 0
      · have : es = [] := by apply List.eq_nil_of_length_eq_zero; omega
        subst this
        exact ⟨[], .nil _ _ _, rfl⟩
      · obtain ⟨b, o, c, e, rfl, h4, h5, h6⟩ := q3 hcap
        have hb : M.blk id = b := by show (match vs[id]? with | some (.slice (some a) _ _) => a.block | _ => 0) = b; rw [h2]
        have ho : M.off id = o := by show (if id ∈ inout f then (match vs[id]? with | some (.slice (some a) _ _) => a.off | _ => 0) else 0) = o; rw [if_pos hi, h2]
        exact ⟨[], by rw [hb, ho]; exact h6, rfl⟩
  · obtain ⟨hp, v, hv, hb⟩ := hκ b id h
    obtain ⟨r, h1, h2⟩ := hlent id v hp hv
    obtain ⟨es, a, cap, e1, rfl, q2, q3⟩ := h2
    obtain ⟨a', l', cap', e2, hc, e3⟩ := hblk _ _ hb
    cases e2
    obtain ⟨b', o, c, e, e4, h4, _⟩ := q3 hc
    cases e4
    cases e3
    refine ⟨(Array.getElem?_eq_some_iff.1 h4).1, ?_⟩
    show b' = (match vs[id]? with | some (.slice (some a) _ _) => a.block | _ => 0)
    rw [hv]
  · obtain ⟨hp, v, hv, hb'⟩ := hκ b id h
    obtain ⟨a, l, cap, rfl, hc, rfl⟩ := hblk _ _ hb'
    exact ⟨_, (hio id (a.block, a.off, l, ioSz f)).2 ⟨hp, a, l, cap, hv, hc, rfl⟩⟩
  · obtain ⟨hp, a, l, cap, hv, hc, e⟩ := (hio id _).1 h
    cases e
    obtain ⟨es, v, h1, h2, h3, h4⟩ := hrow id hp
    rw [hv] at h2; cases h2
    obtain ⟨es', a', cap', e1, e2, q2, q3⟩ := h3
    cases e1; cases e2
    obtain ⟨b', o', c, e, e4, h5, h6, h7⟩ := q3 hc
    cases e4
    refine ⟨⟨es, h4, rfl⟩, ?_, ?_, hκ2 b' id _ hp hv (by simp [blockOf, hc]), c, c, e, by rw [hw0]; exact h5, h5, rfl, fun _ _ => rfl⟩
    · show (match vs[id]? with | some (.slice (some a) _ _) => a.block | _ => 0) = _; rw [hv]
    · show (if id ∈ inout f then (match vs[id]? with | some (.slice (some a) _ _) => a.off | _ => 0) else 0) = _; rw [if_pos hp, hv]

/-- THE LAW: what the interpreter says of a body holds of the call. -/
theorem does_of_abody (hT : TTok P) (hm : P.follows .mixedOrders = true) {f : FuncId} {fn : Func} {c : Code} (hf : P.funcs[f]? = some fn) (hb : fn.body = some c) {D : List (Nat × List Nat)} (hdr : drawsOk D c = true) {args : List PV} {rs : RS} {outs : List PV}
    (h : abody (stdA P) D f fn c args (fun rs' outs' => rs' = rs ∧ outs' = outs)) : Does P f args rs outs := by
  intro w vs Fs hok
  unfold abody at h
  split at h
  · rename_i hcond
    obtain ⟨hn, hlen, hall⟩ := hcond
    have hone : inout f = [] ∨ ∃ p, inout f = [p] := by
      match hq : inout f with
      | [] => exact .inl rfl
      | [p] => exact .inr ⟨p, rfl⟩
      | p :: q :: r => rw [hq] at hlen; rw [Nat.blt_eq] at hlen; simp at hlen; omega
    have hps : ∀ p ∈ inout f, ∃ es, args[p]? = some (.sl es) ∧ (start fn.ntmps fn.params.toList (inout f) (ioSz f) args).files p = some (.row es (ioSz f) .free true) := by
      intro p hp
      have h1 := List.all_eq_true.1 hall p hp
      split at h1
      · rename_i es e i ha he
        refine ⟨es, ha, ?_⟩
        have : (inout f).elem p = true := by simpa using hp
        simp only [start, this, ha, he, if_true]
        rw [if_pos (by simpa using h1)]
      · cases h1
    obtain ⟨M, hg⟩ := start_ok hok hone hn fn.params.toList rfl hps
    refine calls_of_wp hf hb ?_
    have hsz : (⟨vs⟩ : Array Value).size = vs.length := rfl
    rw [hsz]
    refine Code.wp_mono ?_ (awp_ok hT hm c hdr hg h)
    intro ex a' w' hq
    have fin : ∀ σ' M', G (envOf f w vs Fs (fun k hk => (hok.io k hk).2)) M' σ' a' w' → (match resultS (stdA P) σ' fn.results.toList with
        | some rs' => if vwIn (inout f) rs' then outsS (stdA P) σ' args (fun outs' => rs' = rs ∧ outs' = outs) (inout f) else False
        | none => False) → a'.defers = [] ∧ ∃ v, (results fn a'.tmps).run P w' = .ok v w' ∧ ∃ v0, Ending.returned v = .returned v0 ∧ Post P f args vs Fs w w' v0 rs outs := by
      intro σ' M' hg' hh
      refine ⟨hg'.defers, ?_⟩
      split at hh
      · rename_i rs' hrs
        split at hh
        rotate_left
        · exact hh.elim
        rename_i hvin
        have hw0 : (envOf f w vs Fs (fun k hk => (hok.io k hk).2)).w0 = w := rfl
        have hioF : ∀ i b q, (envOf f w vs Fs (fun k hk => (hok.io k hk).2)).io i = some (b, q) → i ∈ inout f ∧ ∃ a l cap, vs[i]? = some (.slice (some a) l cap) ∧ cap ≠ 0 ∧ (b, q) = (a.block, a.off, l, ioSz f) := by
          intro i b q hq
          simp only [envOf] at hq
          split at hq
          · rename_i hi
            split at hq
            · rename_i a l cap hv
              split at hq
              · cases hq
              · rename_i hc; cases hq; exact ⟨hi, a, l, cap, hv, hc, rfl⟩
            · cases hq
          · cases hq
        obtain ⟨v, N, r1, r2, r3, r4⟩ := results_ok (Feet := Feet f vs Fs) (V := fun p o l v => p ∈ inout f ∧ ∃ u es, vs[p]? = some u ∧ args[p]? = some (.sl es) ∧ o + l ≤ es.length ∧ ViewOf w' (ioSz f) u es.length o l v) hT hg' hrs (fun id es sz u o l v hfile hdr hrv => by
          subst hrv
          have hpin : id ∈ inout f := by simpa [vwIn] using hvin
          rcases hone with e | ⟨p, e⟩
          · rw [e] at hpin; simp at hpin
          · rw [e] at hpin; simp only [List.mem_singleton] at hpin
            subst hpin
            rw [e] at hh
            simp only [outsS] at hh
            split at hh
            rotate_left
            · exact hh.elim
            rename_i es1 sz1 es0 hfile1 harg
            rw [hfile] at hfile1; cases hfile1
            obtain ⟨hlen2, _, _⟩ := hh
            have hpi : id ∈ inout f := by rw [e]; simp
            obtain ⟨es3, a3, cap3, e3, hv3, _, hsp⟩ : ∃ es a cap, args[id]? = some (.sl es) ∧ vs[id]? = some (.slice a es.length cap) ∧ es.length ≤ cap ∧ (cap ≠ 0 → ∃ b o, a = some ⟨b, o, none⟩) := by
              have hid : id < vs.length := by rw [hok.len]; exact (List.getElem?_eq_some_iff.1 harg).1
              obtain ⟨es3, a3, cap3, e3, e4, e5, e6⟩ := hok.lent id _ _ harg (List.getElem?_eq_getElem hid) hpi
              cases e3
              exact ⟨_, a3, cap3, harg, by rw [List.getElem?_eq_getElem hid, e4], e5, fun hc => let ⟨b, o, _, _, h, _⟩ := e6 hc; ⟨b, o, h⟩⟩
            rw [harg] at e3; cases e3
            obtain ⟨a1, cap1, rfl, q1, q2, q3, q4⟩ := hdr
            have hlen3 : es.length = es0.length := hlen2
            refine ⟨hpi, _, _, hv3, harg, by clear q4; omega, a1, cap1, rfl, q1, by clear q4; omega, fun hc => ?_⟩
            obtain ⟨ea, hκ, c, e1, hw1, hsz⟩ := q4 hc
            have hb0 := hg'.iob _ _ _ _ _ hfile hκ
            obtain ⟨q, hq⟩ := hg'.lent _ _ hb0 hκ
            obtain ⟨_, a4, l4, cap4, hv4, hc4, e4⟩ := hioF _ _ _ hq
            rw [hv3] at hv4; cases hv4
            have eq := (Prod.mk.inj e4).2
            have eb := (Prod.mk.inj e4).1
            subst eq
            obtain ⟨⟨es6, hf6, _⟩, _, hoff, _⟩ := hg'.io _ _ _ _ _ hq
            rw [hfile] at hf6
            cases hf6
            obtain ⟨b5, o5, e5⟩ := hsp hc4
            cases e5
            simp only at eb hoff
            cases ea
            exact ⟨b5, o5, _, _, c, e1, rfl, hc4, by rw [hoff, eb], by rw [← eb]; exact hw1, by rw [← hoff]; exact hsz⟩) (fun b hb => hb) (fun i b q hq => by
          obtain ⟨hi, a, l, cap, hv, hc, e⟩ := hioF i b q hq
          cases e
          exact .inr ⟨i, _, hi, hv, by simp [blockOf, hc]⟩)
        have houts : rs' = rs ∧ outs.length = (inout f).length ∧ ∀ (i k : Nat) (out r : PV) (u : Value), (inout f)[i]? = some k → outs[i]? = some out → args[k]? = some r → vs[k]? = some u → Back w w' (ioSz f) r u out := by
          rcases hone with e | ⟨p, e⟩
          · rw [e] at hh ⊢
            obtain ⟨rfl, rfl⟩ := hh
            exact ⟨rfl, rfl, by simp⟩
          · rw [e] at hh ⊢
            simp only [outsS] at hh
            split at hh
            · rename_i es sz0 es0 hfile harg
              obtain ⟨hlen2, rfl, rfl⟩ := hh
              refine ⟨rfl, rfl, fun i k out r u hi ho hr hu => ?_⟩
              cases i with
              | succ i => simp at hi
              | zero =>
                simp at hi ho
                subst hi; subst ho
                rw [harg] at hr; cases hr
                refine ⟨es0, es, rfl, rfl, hlen2, fun b o l cap hv hc => ?_⟩
                subst hv
                have hpi : p ∈ inout f := by rw [e]; simp
                have hq : (envOf f w vs Fs (fun k hk => (hok.io k hk).2)).io p = some (b, o, l, ioSz f) := by
                  simp only [envOf]
                  rw [if_pos hpi, hu]
                  simp [hc]
                obtain ⟨⟨es2, hf2, _⟩, i1, i2, i3, c0, c, e1, i4, i5, i6, i7⟩ := hg'.io _ _ _ _ _ hq
                rw [hfile] at hf2; cases hf2
                obtain ⟨k0, k1, k2, F, k3, k4⟩ := hg'.files _ _ hfile
                simp only [GoodU] at k4; subst k4
                rw [i1, i2] at k3
                refine ⟨k3, c0, c, e1, i4, i5, i6, fun j hj => i7 j ?_⟩
                -- l is the length
                obtain ⟨es3, a3, cap3, e3, e4, _⟩ := hok.lent p _ _ harg hu hpi
                cases e3; cases e4
                exact hj
            · exact hh.elim
        obtain ⟨rfl, ho1, ho2⟩ := houts
        refine ⟨v, r1, v, rfl, ⟨⟨N, r2, r3, r4⟩, ⟨ho1, ho2⟩, fun b hb hno => ?_, hg'.size, hg'.os, hg'.tape, hg'.out⟩⟩
        refine hg'.frame b hb (fun i q hq => ?_)
        obtain ⟨hi, a, l, cap, hv, hc, e⟩ := hioF i b q hq
        cases e
        exact hno i _ hi hv (by simp [blockOf, hc])
      · exact hh.elim
    cases ex with
    | normal => obtain ⟨M', σ', hg', hh⟩ := hq; exact fin σ' M' hg' hh
    | ret => obtain ⟨M', σ', hg', hh⟩ := hq; exact fin σ' M' hg' hh
    | exit i => obtain ⟨M', σ', hg', hh⟩ := hq; exact hh.elim
    | goto l => exact hq.elim
    | panic c => exact hq.elim
    | outgrown => exact hq.elim
  · exact h.elim
end Go.VAI
