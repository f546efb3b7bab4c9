import Derived.Test.YtialfhjffkoakaaGreatVb
namespace Go.VAI
variable {E : Env} {P : Program}

structure Grow (d : Nat) (M M' : Mp) (w w' : World) : Prop where
  heap : ∀ b, b < w.heap.size → w'.heap[b]? = w.heap[b]?
  size : w.heap.size ≤ w'.heap.size
  κ : ∀ b, b < w.heap.size → M'.κ b = M.κ b
  κn : ∀ b j, w.heap.size ≤ b → M'.κ b = some j → cls j = d ∧ b < w'.heap.size
  blk : ∀ j, cls j ≠ d → M'.blk j = M.blk j ∧ M'.off j = M.off j
  os : w'.os = w.os
  tape : TapeLe w w'
  out : w'.output = w.output

section grow
variable {M M' : Mp} {σ : St} {a : Act} {w w' : World} {d : Nat}

theorem Grow.good (h : Grow d M M' w w') {bs F : List Nat} (hG : Good E M w bs F) : Good E M' w' bs F := by
  intro b hb
  obtain ⟨h1, h2⟩ := hG b hb
  exact ⟨Nat.lt_of_lt_of_le h1 h.size, by rw [h.κ b h1]; exact h2⟩

theorem Grow.same (h : Grow d M M' w w') {bs F : List Nat} (hG : Good E M w bs F) : ∀ b ∈ F, w'.heap[b]? = w.heap[b]? := fun b hb => h.heap b (hG b hb).1

theorem Grow.hdr (h : Grow d M M' w w') (hg : G E M σ a w) {j n sz o l : Nat} {v : Value} (hj : cls j ≠ d) (hh : Hdr M w j n sz o l v) : Hdr M' w' j n sz o l v := by
  obtain ⟨a, cap, h1, h2, h3, h4, h5⟩ := hh
  refine ⟨a, cap, h1, h2, h3, h4, fun h0 => ?_⟩
  obtain ⟨k1, k2, c, e, k3, k4⟩ := h5 h0
  obtain ⟨b1, b2⟩ := h.blk j hj
  have hb := (hg.own _ _ k2)
  rw [b1, b2]
  exact ⟨k1, by rw [h.κ _ hb]; exact k2, c, e, by rw [h.heap _ hb]; exact k3, k4⟩

theorem putFs_other {σ : St} : ∀ {fs : List (Nat × File)} {j : Nat}, (∀ p ∈ fs, p.1 ≠ j) → (putFs σ fs).files j = σ.files j := by
  intro fs
  induction fs generalizing σ with
  | nil => intro j _; rfl
  | cons p fs ih =>
    intro j h
    obtain ⟨id, f⟩ := p
    simp only [putFs]
    rw [ih (fun q hq => h q (by simp [hq]))]
    have := h (id, f) (by simp)
    simp only [putF, upd]
    rw [if_neg (fun e => this e.symm)]

theorem putFs_slots {σ : St} : ∀ {fs : List (Nat × File)}, (putFs σ fs).slots = σ.slots ∧ (putFs σ fs).n = σ.n := by
  intro fs
  induction fs generalizing σ with
  | nil => exact ⟨rfl, rfl⟩
  | cons p fs ih => obtain ⟨id, f⟩ := p; exact ⟨(ih (σ := putF σ id f)).1, (ih (σ := putF σ id f)).2⟩

theorem putFs_in {σ : St} : ∀ {fs : List (Nat × File)}, (fs.map Prod.fst).Nodup → ∀ p ∈ fs, (putFs σ fs).files p.1 = some p.2 := by
  intro fs
  induction fs generalizing σ with
  | nil => intro _ p hp; simp at hp
  | cons q fs ih =>
    intro hn p hp
    obtain ⟨id, f⟩ := q
    simp only [List.map_cons, List.nodup_cons] at hn
    simp only [putFs]
    rcases List.mem_cons.1 hp with rfl | hp
    · rw [putFs_other (fun q hq e => hn.1 (by rw [← show q.1 = id from e]; exact List.mem_map_of_mem hq))]
      simp [putF, upd]
    · exact ih hn.2 p hp

theorem Grow.cl1 (h : Grow d M M' w w') (hg : G E M σ a w) {fs : List (Nat × File)} (hfs : ∀ p ∈ fs, cls p.1 = d) (s : Slot) (v : Value) (hn : ∀ id, cls id = d → nr1 id s) (hc : Cl1 E M σ w s v) : Cl1 E M' (putFs σ fs) w' s v := by
  have hfile : ∀ {j : Nat}, cls j ≠ d → (putFs σ fs).files j = σ.files j := fun hj => putFs_other (fun p hp e => hj (by rw [← e]; exact hfs p hp))
  cases s with
  | pv r bs => obtain ⟨F, h1, h2⟩ := hc; exact ⟨F, h1.mono (h.same h2), h.good h2⟩
  | own j sub =>
    have hj : cls j ≠ d := fun e => hn j e rfl
    cases sub with
    | none => intro es sz u io hf; rw [hfile hj] at hf; exact h.hdr hg hj (hc _ _ _ _ hf)
    | some p => obtain ⟨o, l⟩ := p; intro es sz u io hf; rw [hfile hj] at hf; exact h.hdr hg hj (hc _ _ _ _ hf)
  | ref j o =>
    have hj : cls j ≠ d := fun e => hn j e rfl
    intro ls hf; rw [hfile hj] at hf; rw [(h.blk j hj).1]; exact hc _ hf
  | rref j i o =>
    have hj : cls j ≠ d := fun e => hn j e rfl
    intro es sz u io hf; rw [hfile hj] at hf; rw [(h.blk j hj).1, (h.blk j hj).2]; exact hc _ _ _ _ hf
  | lf j i o yl =>
    have hj : cls j ≠ d := fun e => hn j e rfl
    intro es sz u io hf; rw [hfile hj] at hf
    obtain ⟨⟨x, h1, h2⟩, h3⟩ := hc _ _ _ _ hf
    refine ⟨⟨x, h1, h2⟩, ?_⟩
    obtain ⟨_, _, q2, _⟩ := hg.files _ _ hf
    have hκ := (q2 (by rintro rfl; simp at h1)).1
    rw [(h.blk j hj).1, (h.blk j hj).2, cell?_same (h.heap _ (hg.own _ _ hκ))]
    exact h3
  | undef => exact hc
  | dead => exact hc
  | _ => exact hc.elim

theorem Grow.clS (h : Grow d M M' w w') (hg : G E M σ a w) {fs : List (Nat × File)} (hfs : ∀ p ∈ fs, cls p.1 = d) (s : Slot) (v : Value) (hn : ∀ id, cls id = d → nrS id s) (hc : ClS E M σ w s v) : ClS E M' (putFs σ fs) w' s v := by
  have h2 : ∀ s v, (∀ id, cls id = d → nr2 id s) → Cl2 E M σ w s v → Cl2 E M' (putFs σ fs) w' s v := by
    intro s v hn hc
    cases s with
    | ag ls => obtain ⟨cs, rfl, hc⟩ := hc; exact ⟨cs, rfl, by simpa using hc.imp_mem (g := fun x => x) (fun x hx y hp => h.cl1 hg hfs x y (fun id hid => hn id hid x hx) hp)⟩
    | clo f ls => obtain ⟨cs, rfl, hc⟩ := hc; exact ⟨cs, rfl, by simpa using hc.imp_mem (g := fun x => x) (fun x hx y hp => h.cl1 hg hfs x y (fun id hid => hn id hid x hx) hp)⟩
    | pv r bs => exact h.cl1 hg hfs (.pv r bs) v hn hc
    | own j sub => exact h.cl1 hg hfs (.own j sub) v hn hc
    | ref j o => exact h.cl1 hg hfs (.ref j o) v hn hc
    | rref j i o => exact h.cl1 hg hfs (.rref j i o) v hn hc
    | lf j i o yl => exact h.cl1 hg hfs (.lf j i o yl) v hn hc
    | undef => exact hc
    | dead => exact hc
    | tup ls => exact hc.elim
  cases s with
  | tup ls => obtain ⟨cs, rfl, hc⟩ := hc; exact ⟨cs, rfl, by simpa using hc.imp_mem (g := fun x => x) (fun x hx y hp => h2 x y (fun id hid => hn id hid x hx) hp)⟩
  | pv r bs => exact h2 (.pv r bs) v hn hc
  | ag ls => exact h2 (.ag ls) v hn hc
  | own j sub => exact h2 (.own j sub) v hn hc
  | ref j o => exact h2 (.ref j o) v hn hc
  | rref j i o => exact h2 (.rref j i o) v hn hc
  | lf j i o yl => exact h2 (.lf j i o yl) v hn hc
  | clo f ls => exact h2 (.clo f ls) v hn hc
  | undef => exact hc
  | dead => exact hc

theorem G.grow (hg : G E M σ a w) (h : Grow d M M' w w') (hfr : ∀ id, cls id = d → Fresh σ id) (hκ : ∀ id b, cls id = d → M.κ b ≠ some id) (hio : NoIo E d) {fs : List (Nat × File)} (hfs : ∀ p ∈ fs, cls p.1 = d) (hiof : ∀ id es sz u, cls id = d → (putFs σ fs).files id ≠ some (.row es sz u true))
    (hnew : ∀ id f, cls id = d → (putFs σ fs).files id = some f → ClF E M' (putFs σ fs) w' id f) : G E M' (putFs σ fs) a w' where
  slots k := by
    rw [putFs_slots.1]
    exact h.clS hg hfs _ _ (fun id hid => (hfr id hid).slots k) (hg.slots k)
  tmps := by rw [putFs_slots.2]; exact hg.tmps
  files j g hj := by
    by_cases hc : cls j = d
    · exact hnew j g hc hj
    · rw [putFs_other (fun p hp e => hc (by rw [← e]; exact hfs p hp))] at hj
      have h0 := hg.files j g hj
      have hn : ∀ id, cls id = d → nrF id g := fun id hid => (hfr id hid).files j g hj
      cases g with
      | cell ls =>
        obtain ⟨q1, c, e, q2, q3⟩ := h0
        have hb := (hg.own _ _ q1)
        refine ⟨by rw [(h.blk j hc).1, h.κ _ hb]; exact q1, c, e, by rw [(h.blk j hc).1, h.heap _ hb]; exact q2, ?_⟩
        have := q3.imp_mem (g := fun x => x) (q := fun s v => Cl1 E M' (putFs σ fs) w' s v ∧ v.oneCell' = true ∧ noTup s = true ∨ s = .dead)
          (fun s hs v hh => hh.imp (fun ⟨p1, p2⟩ => ⟨h.cl1 hg hfs s v (fun id hid => hn id hid s hs) p1, p2⟩) (fun hh => hh))
        simpa using this
      | row es sz u io =>
        obtain ⟨q0, q1, q2, F, q3, q4⟩ := h0
        refine ⟨by rw [(h.blk j hc).2]; exact q0, q1, fun hes => ?_, F, ?_, ?_⟩
        · obtain ⟨k1, c, e, k2⟩ := q2 hes
          have hb := (hg.own _ _ k1)
          exact ⟨by rw [(h.blk j hc).1, h.κ _ hb]; exact k1, c, e, by rw [(h.blk j hc).1, h.heap _ hb]; exact k2⟩
        · rw [(h.blk j hc).1, (h.blk j hc).2]
          have hF : ∀ b ∈ F, w'.heap[b]? = w.heap[b]? := by
            cases u with
            | free => simp [GoodU] at q4; subst q4; simp
            | sh bs => exact h.same q4
            | deep z0 zs => exact fun b hb => h.heap b (q4.2 b hb).2.1
          by_cases hes : es = []
          · subst hes; cases q3; exact .nil _ _ _
          · obtain ⟨k1, _⟩ := q2 hes
            exact q3.mono (h.heap _ (hg.own _ _ k1)) hF
        · cases u with
          | free => exact q4
          | sh bs => exact h.good q4
          | deep z0 zs => exact q4.deep_mono (h.blk j hc).1 (h.blk j hc).2 (fun hes => by obtain ⟨k1, _⟩ := q2 hes; exact h.heap _ (hg.own _ _ k1)) (fun c p1 p2 => ⟨by rw [h.κ c p2]; exact p1, h.heap c p2, Nat.lt_of_lt_of_le p2 h.size⟩)
  defers := hg.defers
  own b j hb := by
    rcases Nat.lt_or_ge b w.heap.size with hlt | hge
    · exact Nat.lt_of_lt_of_le hlt h.size
    · exact (h.κn b j hge hb).2
  lent b j hb hk := by
    have hb' := Nat.lt_of_lt_of_le hb hg.size
    rw [h.κ b hb'] at hk
    exact hg.lent b j hb hk
  frame b hb hno := by
    rw [h.heap b (Nat.lt_of_lt_of_le hb hg.size)]
    exact hg.frame b hb hno
  size := Nat.le_trans hg.size h.size
  os := h.os.trans hg.os
  tape := hg.tape.trans h.tape
  out := h.out.trans hg.out
  iob j es sz u b hj hk := by
    by_cases hc : cls j = d
    · exact absurd hj (hiof j es sz u hc)
    · rw [putFs_other (fun p hp e => hc (by rw [← e]; exact hfs p hp))] at hj
      have hb0 : b < w.heap.size := by
        rcases Nat.lt_or_ge b w.heap.size with hb | hb
        · exact hb
        · exact absurd (h.κn b j hb hk).1 hc
      rw [h.κ b hb0] at hk
      exact hg.iob _ _ _ _ _ hj hk
  io i b o n sz hq := by
    have hi : cls i ≠ d := hio _ _ hq
    obtain ⟨⟨es, u, h1, h2⟩, h3, h4, h5, c0, c, e, h6, h7, h8, h9⟩ := hg.io i b o n sz hq
    have hb := (hg.own _ _ h5)
    exact ⟨⟨es, u, by rw [putFs_other (fun p hp e => hi (by rw [← e]; exact hfs p hp))]; exact h1, h2⟩, by rw [(h.blk i hi).1]; exact h3, by rw [(h.blk i hi).2]; exact h4, by rw [h.κ b hb]; exact h5,
      c0, c, e, h6, by rw [h.heap b hb]; exact h7, h8, h9⟩

end grow

/-! ### What a callee hands back -/

def AdOk (E : Env) (w' : World) (ok : Nat → Prop) (d : Nat) (bs : List Nat) (c : Nat) (N : List Nat) (fs : List (Nat × File)) (c' : Nat) (C : Mp → St → Prop) : Prop :=
  ∃ bl : List (List Nat), c' = c + bl.length ∧ N = bl.flatten ∧ fs.map Prod.fst = (List.range' c bl.length).map (fun j => d + 4096 * j) ∧
    ∀ M' σ', (∀ j B, bl[j]? = some B → M'.off (d + 4096 * (c + j)) = 0 ∧ ∀ b O, B = b :: O → M'.blk (d + 4096 * (c + j)) = b ∧ ∀ x ∈ B, M'.κ x = some (d + 4096 * (c + j))) →
      (∀ p ∈ fs, σ'.files p.1 = some p.2) → (∀ F, (∀ b ∈ F, ok b) → Good E M' w' bs F) → (∀ j, d + 4096 * j ∉ bs) → (N.Nodup ∧ ∀ b ∈ N, b < w'.heap.size) → C M' σ' ∧ ∀ p ∈ fs, ClF E M' σ' w' p.1 p.2

theorem AdOk.nil {w' : World} {ok : Nat → Prop} {d : Nat} {bs : List Nat} {c : Nat} {C : Mp → St → Prop} (h : ∀ M' σ', (∀ F, (∀ b ∈ F, ok b) → Good E M' w' bs F) → C M' σ') : AdOk E w' ok d bs c [] [] c C :=
  ⟨[], rfl, rfl, rfl, fun M' σ' _ _ hG _ _ => ⟨h M' σ' hG, by simp⟩⟩

theorem AdOk.app {w' : World} {ok : Nat → Prop} {d : Nat} {bs : List Nat} {c c1 c2 : Nat} {N1 N2 : List Nat} {fs1 fs2 : List (Nat × File)} {C1 C2 : Mp → St → Prop}
    (h1 : AdOk E w' ok d bs c N1 fs1 c1 C1) (h2 : AdOk E w' ok d bs c1 N2 fs2 c2 C2) : AdOk E w' ok d bs c (N1 ++ N2) (fs1 ++ fs2) c2 (fun M σ => C1 M σ ∧ C2 M σ) := by
  obtain ⟨b1, e1, n1, r1, k1⟩ := h1
  obtain ⟨b2, e2, n2, r2, k2⟩ := h2
  subst e1
  refine ⟨b1 ++ b2, by simp; omega, by simp [n1, n2], ?_, fun M' σ' ha hf hG hd hN => ?_⟩
  · rw [List.map_append, r1, r2, List.length_append, ← List.map_append]
    congr 1
    rw [show b1.length + b2.length = b1.length + b2.length from rfl, List.range'_append_1]
  · obtain ⟨q1, q2⟩ := k1 M' σ' (fun j ob hj => ha j ob (by rw [List.getElem?_append_left (List.getElem?_eq_some_iff.1 hj).1]; exact hj)) (fun p hp => hf p (by simp [hp])) hG hd ⟨(List.nodup_append.1 hN.1).1, fun b hb => hN.2 b (by simp [hb])⟩
    obtain ⟨q3, q4⟩ := k2 M' σ' (fun j ob hj => by
      have := ha (b1.length + j) ob (by rw [List.getElem?_append_right (by omega), show b1.length + j - b1.length = j by omega]; exact hj)
      rwa [← Nat.add_assoc] at this) (fun p hp => hf p (by simp [hp])) hG hd ⟨(List.nodup_append.1 hN.1).2.1, fun b hb => hN.2 b (by simp [hb])⟩
    exact ⟨⟨q1, q3⟩, fun p hp => (List.mem_append.1 hp).elim (q2 p) (q4 p)⟩

theorem AdOk.imp {w' : World} {ok : Nat → Prop} {d : Nat} {bs : List Nat} {c c1 : Nat} {N1 : List Nat} {fs1 : List (Nat × File)} {C1 C2 : Mp → St → Prop}
    (h1 : AdOk E w' ok d bs c N1 fs1 c1 C1) (h : ∀ M σ, C1 M σ → C2 M σ) : AdOk E w' ok d bs c N1 fs1 c1 C2 := by
  obtain ⟨b1, e1, n1, r1, k1⟩ := h1
  exact ⟨b1, e1, n1, r1, fun M' σ' ha hf hG hd hN => let ⟨q1, q2⟩ := k1 M' σ' ha hf hG hd hN; ⟨h _ _ q1, q2⟩⟩

theorem adopt1_ok {w' : World} {ok : Nat → Prop} {d : Nat} {bs : List Nat} {c : Nat} {r : RS} {v : Value} {N : List Nat} (h : RCl1 w' ok r v N) :
    AdOk E w' ok d bs c N (adopt1 d bs c r).2.1 (adopt1 d bs c r).2.2 (fun M σ => Cl1 E M σ w' (adopt1 d bs c r).1 v) := by
  cases r with
  | pv r =>
    obtain ⟨rfl, F, h1, h2⟩ := h
    exact AdOk.nil (fun M' σ' hG => mkpv_cl (M := M') (σ := σ') (w := w') (r := r) (bs := bs) ⟨F, h1, hG F h2⟩)
  | row es sz u =>
    have hnil : ∀ u' a, es = [] → v = .slice a 0 0 → N = [] → (∀ (_ : ∀ j, d + 4096 * j ∉ bs), d + 4096 * c ∉ rubs u') → (∀ M' : Mp, GoodU E M' w' (d + 4096 * c) sz [] u' []) → AdOk E w' ok d bs c N [(d + 4096 * c, .row es sz u' false)] (c + 1) (fun M σ => Cl1 E M σ w' (.own (d + 4096 * c) none) v) := by
      rintro u' a rfl rfl rfl hrub hgu
      refine ⟨[[]], rfl, rfl, rfl, fun M' σ' ha hf hG hd _ => ?_⟩
      obtain ⟨k1, _⟩ := ha 0 [] rfl
      simp only [Nat.add_zero] at k1
      have hf' := hf _ (List.mem_singleton.2 rfl)
      refine ⟨fun es' sz' u'' io' hf2 => ?_, fun p hp => ?_⟩
      · rw [hf'] at hf2; cases hf2
        exact ⟨a, 0, rfl, by simp, by simp, by simp, fun h => absurd rfl h⟩
      · simp only [List.mem_singleton] at hp; subst hp
        exact ⟨fun _ => k1, hrub hd, fun h => absurd rfl h, [], .nil _ _ _, hgu M'⟩
    have gen : ∀ u', isDeepU u = false → (u' = .free ∧ u = .free ∨ u' = .sh bs) → AdOk E w' ok d bs c N [(d + 4096 * c, .row es sz u' false)] (c + 1) (fun M σ => Cl1 E M σ w' (.own (d + 4096 * c) none) v) := by
      intro u' hnd hu'
      have hrub : ∀ j, (∀ j, d + 4096 * j ∉ bs) → d + 4096 * j ∉ rubs u' := by
        intro j hd
        rcases hu' with ⟨rfl, _⟩ | rfl
        · simp [rubs]
        · exact hd j
      rcases h with ⟨b, cc, e, cap, F, rfl, rfl, hle, hcap, hb, hsz, hr, _, hfree, hok⟩ | ⟨rfl, rfl, a, rfl⟩ | ⟨_, _, rfl, _⟩
      · refine ⟨[[b]], rfl, rfl, rfl, fun M' σ' ha hf hG hd _ => ?_⟩
        obtain ⟨k1, k2⟩ := ha 0 [b] rfl
        obtain ⟨k2, k3⟩ := k2 b [] rfl
        have k3 := k3 b (by simp)
        simp only [Nat.add_zero] at k1 k2 k3
        have hf' := hf _ (List.mem_singleton.2 rfl)
        refine ⟨fun es' sz' u'' io' hf2 => ?_, fun p hp => ?_⟩
        · rw [hf'] at hf2; cases hf2
          exact ⟨_, cap, rfl, hle, by omega, by omega, fun _ => ⟨by rw [k2, k1]; simp, by rw [k2]; exact k3, cc, e, by rw [k2]; exact hb, by rw [k1]; simpa using hsz⟩⟩
        · simp only [List.mem_singleton] at hp; subst hp
          refine ⟨fun _ => k1, hrub c hd, fun _ => ⟨by rw [k2]; exact k3, cc, e, by rw [k2]; exact hb⟩, F, by rw [k1, k2]; exact hr, ?_⟩
          rcases hu' with ⟨rfl, hu⟩ | rfl
          · exact hfree hu
          · exact hG F hok
      · refine hnil u' a rfl rfl rfl (hrub c) (fun M' => ?_)
        rcases hu' with ⟨rfl, hu⟩ | rfl
        · exact rfl
        · exact fun b hb => absurd hb (List.not_mem_nil)
      · cases hnd
    cases u with
    | free => exact gen .free rfl (.inl ⟨rfl, rfl⟩)
    | sh b0 => exact gen (.sh bs) rfl (.inr rfl)
    | deep z0 zs =>
      rcases h with ⟨_, _, _, _, _, _, _, _, _, _, _, _, hnd, _⟩ | ⟨rfl, rfl, a, rfl⟩ | ⟨z1, zs1, e0, b, cc, e, cap, N', rfl, rfl, hle, hcap, hb, hsz, hr⟩
      · cases hnd
      · exact hnil (.deep z0 zs) a rfl rfl rfl (fun _ => by simp [rubs]) (fun M' => ⟨⟨[], RowO.nil, List.nodup_nil, by simp⟩, by simp⟩)
      · cases e0
        refine ⟨[b :: N'], rfl, by simp, rfl, fun M' σ' ha hf hG hd hN => ?_⟩
        obtain ⟨k1, k2⟩ := ha 0 _ rfl
        obtain ⟨k2, k3⟩ := k2 b _ rfl
        simp only [Nat.add_zero] at k1 k2 k3
        have hf' := hf _ (List.mem_singleton.2 rfl)
        have hnd := List.nodup_cons.1 hN.1
        have hdeep : DeepU M' w' (d + 4096 * c) sz (z0 :: zs) es := ⟨N', by rw [k1, k2]; exact hr, hnd.2, fun x hm =>
          ⟨k3 x (by simp [hm]), hN.2 x (by simp [hm]), by rw [k2]; exact fun e => hnd.1 (by rw [← e]; exact hm)⟩⟩
        obtain ⟨F, hF1, hF2⟩ := hdeep.rep
        refine ⟨fun es' sz' u'' io' hf2 => ?_, fun p hp => ?_⟩
        · rw [hf'] at hf2; cases hf2
          exact ⟨_, cap, rfl, hle, by omega, by omega, fun _ => ⟨by rw [k2, k1]; simp, by rw [k2]; exact k3 b (by simp), cc, e, by rw [k2]; exact hb, by rw [k1]; simpa using hsz⟩⟩
        · have hp := List.mem_singleton.1 hp
          subst hp
          exact ⟨fun _ => k1, by simp [rubs], fun _ => ⟨by rw [k2]; exact k3 b (by simp), cc, e, by rw [k2]; exact hb⟩, F, hF1, hdeep, hF2⟩
  | ag ls => exact h.elim
  | tup ls => exact h.elim
  | vw p o l => exact h.elim

theorem adoptL_ok {w' : World} {ok : Nat → Prop} {d : Nat} {bs : List Nat} {f : Nat → RS → Slot × List (Nat × File) × Nat} {p : RS → Value → List Nat → Prop} {C : Mp → St → Slot → Value → Prop}
    (hf : ∀ c r v N, p r v N → AdOk E w' ok d bs c N (f c r).2.1 (f c r).2.2 (fun M σ => C M σ (f c r).1 v)) :
    ∀ {ls : List RS} {vs : List Value} {N : List Nat}, RAll p ls vs N → ∀ c, AdOk E w' ok d bs c N (adoptL f c ls).2.1 (adoptL f c ls).2.2 (fun M σ => All2 (C M σ) (adoptL f c ls).1 vs)
  | _, _, _, .nil, c => AdOk.nil (fun _ _ _ => .nil)
  | x :: _, _, _, .cons h t, c => by
    have h1 := hf c _ _ _ h
    have h2 := adoptL_ok hf t (f c x).2.2
    exact (h1.app h2).imp (fun M σ hh => .cons hh.1 hh.2)

theorem adopt2_ok {w' : World} {ok : Nat → Prop} {d : Nat} {bs : List Nat} {c : Nat} {r : RS} {v : Value} {N : List Nat} (h : RCl2 w' ok r v N) :
    AdOk E w' ok d bs c N (adopt2 d bs c r).2.1 (adopt2 d bs c r).2.2 (fun M σ => Cl2 E M σ w' (adopt2 d bs c r).1 v) := by
  cases r with
  | ag ls =>
    obtain ⟨cs, rfl, h⟩ := h
    have h1 := adoptL_ok (E := E) (d := d) (bs := bs) (f := adopt1 d bs) (p := RCl1 w' ok) (C := fun M σ => Cl1 E M σ w') (fun c r v N hh => adopt1_ok hh) h c
    exact h1.imp (fun M σ hh => ⟨cs, rfl, hh⟩)
  | pv r => exact (adopt1_ok (r := .pv r) h).imp (fun M σ hh => Cl2.of1 hh)
  | row es sz u => exact (adopt1_ok (r := .row es sz u) h).imp (fun M σ hh => Cl2.of1 hh)
  | tup ls => exact h.elim
  | vw p o l => exact h.elim

theorem adopt_ok {w' : World} {V : Nat → Nat → Nat → Value → Prop} {ok : Nat → Prop} {d : Nat} {bs : List Nat} {r : RS} {v : Value} {N : List Nat} (h : RClS w' V ok r v N) :
    ∃ c', AdOk E w' ok d bs 0 N (adopt d bs r).2 c' (fun M σ => ClS E M σ w' (adopt d bs r).1 v) := by
  cases r with
  | tup ls =>
    obtain ⟨cs, rfl, h⟩ := h
    have h1 := adoptL_ok (E := E) (d := d) (bs := bs) (f := adopt2 d bs) (p := RCl2 w' ok) (C := fun M σ => Cl2 E M σ w') (fun c r v N hh => adopt2_ok hh) h 0
    exact ⟨_, h1.imp (fun M σ hh => ⟨cs, rfl, hh⟩)⟩
  | pv r => exact ⟨_, (adopt2_ok (r := .pv r) h).imp (fun M σ hh => ClS.of2 hh)⟩
  | row es sz u => exact ⟨_, (adopt2_ok (r := .row es sz u) h).imp (fun M σ hh => ClS.of2 hh)⟩
  | ag ls => exact ⟨_, (adopt2_ok (r := .ag ls) h).imp (fun M σ hh => ClS.of2 hh)⟩
  | vw p o l =>
    obtain ⟨rfl, _⟩ := h
    exact ⟨_, AdOk.nil (fun M' σ' _ => trivial)⟩

end Go.VAI

namespace Go.VAI
variable {E : Env} {P : Program}

theorem Calls.mono {f : FuncId} {args : Array Value} {w : World} {R R' : Ending → World → Prop} (h : Calls P f args w R) (hi : ∀ e w', R e w' → R' e w') : Calls P f args w R' := by
  intro cs
  obtain ⟨e, w', fr, h1, h2⟩ := h cs
  exact ⟨e, w', fr, hi _ _ h1, h2⟩

section ops
variable {M : Mp} {σ : St} {a : Act} {w : World} {o : Oper} {K : St → Prop} {Q : Exit → Act → World → Prop}

theorem caps_ok (_ : G E M σ a w) {s : Slot} {v : Value} (hc : ClS E M σ w s v) {f : FuncId} {caps : List Slot} (h : capsOf s = some (f, caps)) : ∃ cs, v = .func (.func f) #[] ⟨cs⟩ ∧ All2 (Cl1 E M σ w) caps cs := by
  unfold capsOf at h
  split at h
  · rename_i f0 cs0 bs
    cases h
    obtain ⟨F, h1, h2⟩ := hc
    cases h1 with
    | fn h1 =>
      rename_i cs
      refine ⟨cs, rfl, ?_⟩
      have : ∀ (l : List PV) (vs : List Value) (F : List Nat), RepL w l vs F → Good E M w bs F → All2 (Cl1 E M σ w) (l.map (mkpv · bs)) vs := by
        intro l
        induction l with
        | nil => intro vs F h _; cases h; exact .nil
        | cons x l ih =>
          intro vs F h hG
          cases h with
          | cons h t => exact .cons (mkpv_cl ⟨_, h, hG.mono (fun b hb => by simp [hb])⟩) (ih _ _ t (hG.mono (fun b hb => by simp [hb])))
      exact this _ _ _ h1 h2
  · cases h; exact hc
  · cases h

theorem args_cl (hg : G E M σ a w) : ∀ l : List Operand, All2 (ClS E M σ w) (l.map (eval σ)) (l.map a.eval)
  | [] => .nil
  | x :: l => .cons (eval_cl hg x) (args_cl hg l)

theorem feet_ok (hg : G E M σ a w) : ∀ {ss : List Slot} {vs : List Value} {ps : List PV}, optAll (toPV (stdA P) σ) ss = some ps → All2 (ClS E M σ w) ss vs →
    ps.length = ss.length ∧ ∃ Fs : List (List Nat), Fs.length = ss.length ∧ ∀ (k : Nat) (s : Slot) (r : PV) (v : Value) (F : List Nat), ss[k]? = some s → ps[k]? = some r → vs[k]? = some v → Fs[k]? = some F → toPV (stdA P) σ s = some r ∧ Rep w r v F ∧ Good E M w (refsOf σ s) F
  | [], _, ps, h, _ => by simp [optAll] at h; subst h; exact ⟨rfl, [], rfl, by simp⟩
  | s :: ss, _, ps, h, .cons hc t => by
    simp only [optAll] at h
    split at h
    · rename_i y hy
      split at h
      · rename_i ys hys
        cases h
        obtain ⟨l1, Fs, h1, h2⟩ := feet_ok hg hys t
        obtain ⟨F, f1, f2⟩ := toPV_rep hg hy hc
        refine ⟨by simp [l1], F :: Fs, by simp [h1], fun k => ?_⟩
        cases k with
        | zero => intro s' r v F' e1 e2 e3 e4; simp at e1 e2 e3 e4; subst e1; subst e2; subst e3; subst e4; exact ⟨hy, f1, f2⟩
        | succ k => intro s' r v F' e1 e2 e3 e4; exact h2 k s' r v F' (by simpa using e1) (by simpa using e2) (by simpa using e3) (by simpa using e4)
      · cases h
    · cases h

/-! ### Two worlds mixed -/

/-- w, but these blocks as in w'. -/
def mixW (w w' : World) (N : List Nat) : World := { w with heap := w.heap.mapIdx fun b x => if b ∈ N then (w'.heap[b]?).getD x else x }
theorem mixW_size {w w' : World} {N : List Nat} : (mixW w w' N).heap.size = w.heap.size := by simp [mixW]
theorem mixW_out {w w' : World} {N : List Nat} {b : Nat} (h : b ∉ N) : (mixW w w' N).heap[b]? = w.heap[b]? := by
  simp only [mixW, Array.getElem?_mapIdx]
  cases w.heap[b]? with
  | none => rfl
  | some x => simp [h]
theorem mixW_in {w w' : World} {N : List Nat} {b : Nat} (h : b ∈ N) (hs : w.heap.size ≤ w'.heap.size) (hb : b < w.heap.size) : (mixW w w' N).heap[b]? = w'.heap[b]? := by
  simp only [mixW, Array.getElem?_mapIdx]
  rw [Array.getElem?_eq_getElem hb, Array.getElem?_eq_getElem (by omega : b < w'.heap.size)]
  simp [h]

/-- What a slot that lends says. -/
theorem lend1_ok (hg : G E M σ a w) {s : Slot} {sz : Nat} {zs : List Nat} {id : Nat} (h : lend1 σ sz zs s = some id) {r : PV} (hp : pv1 (stdA P) σ s = some r) {v : Value} (hc : Cl1 E M σ w s v) (rid : Nat) :
    id ∈ refs1 σ s ∧ (∃ f, σ.files id = some f) ∧ ∃ ys N, r = .sl ys ∧ Lent1 w ⟨rid, ys, sz, zs, v, N⟩ ∧ N.Nodup ∧ ∀ b ∈ N, M.κ b = some id ∧ b < w.heap.size := by
  unfold lend1 at h
  split at h
  · rename_i id0 sub
    split at h
    · rename_i es sz' u io hf
      split at h
      · rename_i hsz
        have hsz : sz' = sz := by simpa using hsz
        subst hsz
        obtain ⟨k0, k1, k2, F, k3, k4⟩ := hg.files _ _ hf
        split at h
        · -- free
          cases h
          simp only [GoodU] at k4; subst k4
          have hkey : ∀ p l, Hdr M w id es.length sz' p l v → ∃ ys N, (es.drop p).take l = ys ∧ Lent1 w ⟨rid, ys, sz', [], v, N⟩ ∧ N.Nodup ∧ ∀ b ∈ N, M.κ b = some id ∧ b < w.heap.size := by
            intro p l hh
            obtain ⟨a0, cap, rfl, h1, h2, h3, h4⟩ := hh
            have hl : ((es.drop p).take l).length = l := by simp; clear h4; omega
            by_cases hcap : cap = 0
            · exact ⟨_, [], rfl, ⟨a0, cap, by rw [hl], by rw [hl]; exact h1, fun _ => rfl, fun h => absurd hcap h⟩, List.nodup_nil, by simp⟩
            · obtain ⟨rfl, g1, c, e, g2, g3⟩ := h4 hcap
              obtain ⟨G1, d1, d2⟩ := k3.drop p (by omega)
              obtain ⟨G2, d3, d4⟩ := d1.take l
              refine ⟨_, [M.blk id], rfl, ⟨_, cap, by rw [hl], by rw [hl]; exact h1, fun h => absurd h hcap, fun _ => ⟨_, _, c, e, [], rfl, g2, by rw [Nat.add_assoc, ← Nat.add_mul]; exact g3, rfl, rfl, G2, d3, fun c hc => ?_⟩⟩, by simp, fun b hb => ?_⟩
              · have := d2 _ (d4 c hc); simp at this
              · simp only [List.mem_singleton] at hb; subst hb; exact ⟨g1, hg.own _ _ g1⟩
          refine ⟨by simp [refs1, hf], ⟨_, hf⟩, ?_⟩
          cases sub with
          | none =>
            simp only [pv1, content, hf] at hp
            cases hp
            obtain ⟨ys, N, e, h1, h2, h3⟩ := hkey 0 es.length (hc _ _ _ _ hf)
            rw [sub_full] at e; subst e
            exact ⟨_, N, rfl, h1, h2, h3⟩
          | some q =>
            obtain ⟨p, l⟩ := q
            simp only [pv1, content, hf] at hp
            cases hp
            obtain ⟨ys, N, e, h1, h2, h3⟩ := hkey p l (hc _ _ _ _ hf)
            subst e
            exact ⟨_, N, rfl, h1, h2, h3⟩
        · -- with its own rows below
          rename_i z zs' z1 zs1
          split at h
          · rename_i hz
            simp only [Bool.and_eq_true, beq_iff_eq] at hz
            obtain ⟨rfl, rfl⟩ := hz
            cases h
            refine ⟨by simp [refs1, hf], ⟨_, hf⟩, ?_⟩
            simp only [pv1, content, hf] at hp
            cases hp
            obtain ⟨⟨N, n1, n2, n3⟩, n4⟩ := k4
            obtain ⟨a0, cap, rfl, h1, h2, h3, h4⟩ := hc _ _ _ _ hf
            by_cases hcap : cap = 0
            · exact ⟨es, [], rfl, ⟨a0, cap, rfl, h1, fun _ => rfl, fun h => absurd hcap h⟩, List.nodup_nil, by simp⟩
            · obtain ⟨rfl, g1, c, e, g2, g3⟩ := h4 hcap
              refine ⟨es, M.blk id :: N, rfl, ⟨_, cap, rfl, h1, fun h => absurd h hcap, fun _ => ⟨_, _, c, e, N, rfl, g2, by simpa using g3, rfl, by simpa using n1⟩⟩, List.nodup_cons.2 ⟨fun hm => (n3 _ hm).2.2 rfl, n2⟩, fun b hb => ?_⟩
              rcases List.mem_cons.1 hb with rfl | hb
              · exact ⟨g1, hg.own _ _ g1⟩
              · exact ⟨(n3 b hb).1, (n3 b hb).2.1⟩
          · cases h
        · cases h
      · cases h
    · cases h
  · rename_i id0 i o ys
    split at h
    · rename_i es sz' z zs' io hf
      split at h
      · rename_i hz
        simp only [Bool.and_eq_true, beq_iff_eq] at hz
        obtain ⟨rfl, rfl⟩ := hz
        cases h
        refine ⟨by simp [refs1, hf], ⟨_, hf⟩, ?_⟩
        simp only [pv1, hf] at hp
        cases hp
        obtain ⟨_, _, _, F, _, ⟨N, n1, n2, n3⟩, n4⟩ := hg.files _ _ hf
        obtain ⟨⟨x, x1, x2⟩, x3⟩ := hc _ _ _ _ hf
        have hox := (List.getElem?_eq_some_iff.1 x2).1
        obtain ⟨m1, m2, m3, e0, a1, a2, a3⟩ := n1.open (p := o) (k := 1) x1 (by omega)
        have hone : ((leaves x).drop o).take 1 = [.sl ys] := by
          rw [List.drop_eq_getElem_cons hox, List.take_succ_cons, List.take_zero, (List.getElem?_eq_some_iff.1 x2).2]
        rw [hone] at a2
        obtain ⟨v0, p1, p2, e1, q1, q2, q3, q4⟩ := a2
        have q4 : p2 = [] := q4
        subst q4
        rw [x3] at q1; cases q1
        simp only [List.append_nil] at e1
        subst e1
        have hsub : ∀ b ∈ m2, b ∈ N := fun b hb => by rw [e0]; simp [hb]
        refine ⟨ys, m2, rfl, ?_, ?_, fun b hb => ⟨(n3 b (hsub b hb)).1, (n3 b (hsub b hb)).2.1⟩⟩
        · rcases q3 with ⟨rfl, rfl, a0, rfl⟩ | ⟨c, p, cap, cc, e, N', rfl, k2, k3, k4, k5, rfl, k6⟩
          · exact ⟨a0, 0, rfl, by simp, fun _ => rfl, fun h => absurd rfl h⟩
          · exact ⟨_, cap, rfl, k3, fun h => absurd h k2, fun _ => ⟨c, p, cc, e, N', rfl, k4, k5, rfl, k6⟩⟩
        · rw [e0] at n2
          exact (List.nodup_append.1 (List.nodup_append.1 n2).2.1).1
      · cases h
    · cases h
  · cases h

theorem fresh_kill {σ : St} {id j : Nat} {hdr : Bool} (h : Fresh σ id) {f : File} (hj : j ≠ id) (hf : nrF id f) : Fresh (putF (kill hdr σ j) j f) id := by
  have k1 : ∀ s, nr1 id s → nr1 id (kill1 hdr j s) := by
    intro s hs
    cases s with
    | pv r bs => simp only [kill1]; split <;> first | exact trivial | exact hs
    | own i sub => simp only [kill1]; split <;> first | exact trivial | exact hs
    | rref i a b => simp only [kill1]; split <;> first | exact trivial | exact hs
    | lf i a b yl => simp only [kill1]; split <;> first | exact trivial | exact hs
    | _ => exact hs
  have l1 : ∀ s, (∀ ls, s ≠ .ag ls) → (∀ f ls, s ≠ .clo f ls) → (∀ ls, s ≠ .tup ls) → nr1 id s → nrS id (kill1 hdr j s) := by
    intro s h1 h2 h3 hs
    have := k1 s hs
    cases s with
    | pv r bs => simp only [kill1] at this ⊢; split <;> first | exact trivial | (rename_i hh; rw [if_neg hh] at this; exact this)
    | own i sub => simp only [kill1] at this ⊢; split <;> first | exact trivial | (rename_i hh; rw [if_neg hh] at this; exact this)
    | rref i a b => simp only [kill1] at this ⊢; split <;> first | exact trivial | (rename_i hh; rw [if_neg hh] at this; exact this)
    | lf i a b yl => simp only [kill1] at this ⊢; split <;> first | exact trivial | (rename_i hh; rw [if_neg hh] at this; exact this)
    | ag ls => exact absurd rfl (h1 ls)
    | clo f ls => exact absurd rfl (h2 f ls)
    | tup ls => exact absurd rfl (h3 ls)
    | ref i o => exact this
    | undef => exact trivial
    | dead => exact trivial
  have k2 : ∀ s, (∀ ls, s ≠ .tup ls) → nr2 id s → nr2 id (map2 (kill1 hdr j) s) := by
    intro s ht hs
    cases s with
    | ag ls => intro t ht; obtain ⟨u, hu, rfl⟩ := List.mem_map.1 ht; exact k1 u (hs u hu)
    | clo f ls => intro t ht; obtain ⟨u, hu, rfl⟩ := List.mem_map.1 ht; exact k1 u (hs u hu)
    | tup ls => exact absurd rfl (ht ls)
    | pv r bs => exact nr2_of_S (l1 (.pv r bs) (by simp) (by simp) (by simp) hs)
    | own i sub => exact nr2_of_S (l1 (.own i sub) (by simp) (by simp) (by simp) hs)
    | ref i o => exact nr2_of_S (l1 (.ref i o) (by simp) (by simp) (by simp) hs)
    | rref i u o => exact nr2_of_S (l1 (.rref i u o) (by simp) (by simp) (by simp) hs)
    | lf i u o yl => exact nr2_of_S (l1 (.lf i u o yl) (by simp) (by simp) (by simp) hs)
    | undef => exact nr2_of_S (l1 .undef (by simp) (by simp) (by simp) hs)
    | dead => exact nr2_of_S (l1 .dead (by simp) (by simp) (by simp) hs)
  refine ⟨fun k => ?_, fun i g hg => ?_, ?_⟩
  · have hs := h.slots k
    show nrS id (mapS (kill1 hdr j) (σ.slots k))
    cases hk : σ.slots k with
    | tup ls =>
      rw [hk] at hs
      intro t ht
      obtain ⟨u, hu, rfl⟩ := List.mem_map.1 ht
      have := hs u hu
      cases u with
      | tup ls' => exact trivial
      | ag ls' => exact k2 (.ag ls') (by simp) this
      | clo f ls' => exact k2 (.clo f ls') (by simp) this
      | pv r bs => exact k2 (.pv r bs) (by simp) this
      | own i sub => exact k2 (.own i sub) (by simp) this
      | ref i o => exact k2 (.ref i o) (by simp) this
      | rref i u o => exact k2 (.rref i u o) (by simp) this
      | lf i u o yl => exact k2 (.lf i u o yl) (by simp) this
      | undef => exact k2 .undef (by simp) this
      | dead => exact k2 .dead (by simp) this
    | ag ls => rw [hk] at hs; exact k2 (.ag ls) (by simp) hs
    | clo f ls => rw [hk] at hs; exact k2 (.clo f ls) (by simp) hs
    | pv r bs => rw [hk] at hs; exact l1 (.pv r bs) (by simp) (by simp) (by simp) hs
    | own i sub => rw [hk] at hs; exact l1 (.own i sub) (by simp) (by simp) (by simp) hs
    | ref i o => rw [hk] at hs; exact l1 (.ref i o) (by simp) (by simp) (by simp) hs
    | rref i u o => rw [hk] at hs; exact l1 (.rref i u o) (by simp) (by simp) (by simp) hs
    | lf i u o yl => rw [hk] at hs; exact l1 (.lf i u o yl) (by simp) (by simp) (by simp) hs
    | undef => rw [hk] at hs; exact l1 .undef (by simp) (by simp) (by simp) hs
    | dead => rw [hk] at hs; exact l1 .dead (by simp) (by simp) (by simp) hs
  · rcases putF_files.1 hg with ⟨rfl, rfl⟩ | ⟨hne, hg⟩
    · exact hf
    · obtain ⟨f0, h1, h2⟩ := kill_files.1 hg
      rw [if_neg hne] at h2
      have := h.files _ _ h1
      cases f0 with
      | cell ls =>
        simp only [killF] at h2
        cases h2
        intro t ht
        obtain ⟨u, hu, rfl⟩ := List.mem_map.1 ht
        have hu' := this u hu
        cases u with
        | ag ls' => exact trivial
        | clo f ls' => exact trivial
        | tup ls' => exact trivial
        | pv r bs => exact (k1 (.pv r bs) hu')
        | own i sub => exact (k1 (.own i sub) hu')
        | ref i o => exact (k1 (.ref i o) hu')
        | rref i u o => exact (k1 (.rref i u o) hu')
        | lf i u o yl => exact (k1 (.lf i u o yl) hu')
        | undef => exact (k1 .undef hu')
        | dead => exact (k1 .dead hu')
      | row es sz u io =>
        cases u with
        | free => simp only [killF] at h2; cases h2; exact this
        | deep z0 zs => simp only [killF] at h2; cases h2; exact this
        | sh bs => simp only [killF] at h2; split at h2 <;> cases h2; exact this
  · cases hq : (putF (kill hdr σ j) j f).files id with
    | none => rfl
    | some g =>
      rcases putF_files.1 hq with ⟨e, _⟩ | ⟨_, hg⟩
      · exact absurd e.symm hj
      · obtain ⟨f0, h1, _⟩ := kill_files.1 hg
        rw [h.none] at h1; cases h1


end ops
end Go.VAI

namespace Go.VAI
variable {E : Env} {P : Program}

section lend
variable {M : Mp} {σ : St} {a : Act} {w : World}

/-- A row that was lent comes back. -/
theorem step_core (hg : G E M σ a w) {id : Nat} {es : List PV} {sz : Nat} {u : RU} {io : Bool} (hf : σ.files id = some (.row es sz u io)) {N : List Nat} (hN : ∀ b ∈ N, M.κ b = some id) {w' : World}
    {es2 : List PV} (hlen : es2.length = es.length) (hcl : ∃ F, RepRow (mixW w w' N) (M.blk id) sz (M.off id) es2 F ∧ GoodU E M (mixW w w' N) id sz es2 u F)
    (hblk : ∀ c e, w.heap[M.blk id]? = some (.cells c e (0, 0)) → ∃ c', (mixW w w' N).heap[M.blk id]? = some (.cells c' e (0, 0)) ∧ c'.size = c.size ∧ ∀ j, (j < M.off id ∨ M.off id + es.length * sz ≤ j) → c'[j]? = c[j]?) :
    G E M (putF (kill false σ id) id (.row es2 sz u io)) a (mixW w w' N) ∧ ∀ s v, Cl1 E M σ w s v → Cl1 E M (putF (kill false σ id) id (.row es2 sz u io)) (mixW w w' N) (kill1 false id s) v := by
  obtain ⟨k0, k1, k2, F, k3, k4⟩ := hg.files _ _ hf
  have ht1 : Turn E id M M w (mixW w w' N) := {
    heap := fun b hb hne => mixW_out (fun hm => hne (hN b hm))
    size := by rw [mixW_size]; exact Nat.le_refl _
    κ := fun _ _ _ => rfl
    κo := fun b j h h' => by rw [h] at h'; cases h'; rfl
    κn := fun b j hb h => by have := hg.own _ _ h; omega
    blk := fun _ _ => ⟨rfl, rfl⟩
    os := rfl
    tape := TapeLe.rfl'
    out := rfl }
  have hsame : false = false → SameHdr M M w (mixW w w' N) id (.row es sz u io) (.row es2 sz u io) := fun _ =>
    ⟨fun ls' hh => (by cases hh), fun es3 sz' u' io' hh => by
      cases hh
      refine ⟨rfl, rfl, es, _, rfl, hlen.symm, fun oo l' v hh => ?_⟩
      rw [hlen] at hh ⊢
      obtain ⟨aa, cap', e1, e2, e3, e4, e5⟩ := hh
      refine ⟨aa, cap', e1, e2, e3, e4, fun h0 => ?_⟩
      obtain ⟨q1, q2, c1', e', q3, q4⟩ := e5 h0
      obtain ⟨c', r1, r2, _⟩ := hblk _ _ q3
      exact ⟨q1, q2, c', _, r1, by rw [r2]; exact q4⟩⟩
  refine ⟨hg.turn (hdr := false) ht1 hf hsame (fun h => by cases h) ⟨k0, k1, fun h2 => ?_, hcl⟩ (fun b hk hb => hg.lent b id hb hk) (fun b hk hb => ⟨id, hg.lent b id hb hk⟩) (fun _ _ _ _ e hk => by first | (cases e; done) | (cases e; exact hg.iob _ _ _ _ _ hf hk)) (fun b oo n sz' hqq => ?_), ht1.cl1 hg hf hsame (fun h => by cases h)⟩
  · obtain ⟨q1, c, e, q2⟩ := k2 (by intro e; subst e; apply h2; exact List.eq_nil_of_length_eq_zero (by simpa using hlen))
    obtain ⟨c', r1, _⟩ := hblk _ _ q2
    exact ⟨q1, c', e, r1⟩
  · obtain ⟨⟨es3, u3, hf', hnu, hn⟩, i1, i2, i3, c00, ci, ei, i4, i5, i6, i7⟩ := hg.io _ _ _ _ _ hqq
    rw [hf] at hf'
    cases hf'
    rw [← i1] at i5
    obtain ⟨c', r1, r2, r3⟩ := hblk _ _ i5
    refine ⟨⟨es2, u, rfl, hnu, by rw [hlen]; exact hn⟩, i1, i2, i3, c00, c', ei, i4, by rw [← i1]; exact r1, by rw [r2]; exact i6, fun j hj => ?_⟩
    rw [r3 j (by rw [i2, hn]; exact hj)]
    exact i7 j hj

/-- What a step leaves as it was. -/
structure Kept (E : Env) (M : Mp) (σ σ2 : St) (w w2 : World) (id : Nat) : Prop where
  n : σ2.n = σ.n
  fresh : ∀ i, i ≠ id → Fresh σ i → Fresh σ2 i
  files : ∀ i es sz u io, notSh u = true → σ.files i = some (.row es sz u io) → ∃ es', σ2.files i = some (.row es' sz u io) ∧ es'.length = es.length
  same : ∀ i es sz u io, i ≠ id → notSh u = true → σ.files i = some (.row es sz u io) → σ2.files i = some (.row es sz u io)
  cl : ∀ s v, Cl1 E M σ w s v → Cl1 E M σ2 w2 (kill1 false id s) v

theorem kept_put {id : Nat} {es es2 : List PV} {sz : Nat} {u : RU} {io : Bool} {w2 : World} (hf : σ.files id = some (.row es sz u io)) (hu : notSh u = true) (hlen : es2.length = es.length)
    (h : ∀ s v, Cl1 E M σ w s v → Cl1 E M (putF (kill false σ id) id (.row es2 sz u io)) w2 (kill1 false id s) v) : Kept E M σ (putF (kill false σ id) id (.row es2 sz u io)) w w2 id where
  n := rfl
  fresh i hi hfr := fresh_kill hfr (fun e => hi e.symm) (by cases u <;> first | (simp [nrF, rubs]; done) | (cases hu; done))
  files i es0 sz0 u0 io0 hu0 hf0 := by
    by_cases hi : i = id
    · subst hi
      rw [hf] at hf0; cases hf0
      exact ⟨es2, putF_files.2 (.inl ⟨rfl, rfl⟩), hlen⟩
    · refine ⟨es0, putF_files.2 (.inr ⟨hi, kill_files.2 ⟨_, hf0, ?_⟩⟩), rfl⟩
      rw [if_neg hi]
      cases u0 with
      | sh bs => cases hu0
      | _ => rfl
  same i es0 sz0 u0 io0 hi hu0 hf0 := by
    refine putF_files.2 (.inr ⟨hi, kill_files.2 ⟨_, hf0, ?_⟩⟩)
    rw [if_neg hi]
    cases u0 with
    | sh bs => cases hu0
    | _ => rfl
  cl := h

/-- A row free of addresses, or a part of it. -/
theorem step_free (hg : G E M σ a w) {id : Nat} {es : List PV} {sz : Nat} {io : Bool} (hf : σ.files id = some (.row es sz .free io)) {p l rid : Nat} {v : Value} (hh : Hdr M w id es.length sz p l v) {N : List Nat} (hL : Lent1 w ⟨rid, (es.drop p).take l, sz, [], v, N⟩) {w' : World} (hsz : w.heap.size ≤ w'.heap.size) {es' : List PV}
    (hb : Back1 w w' ⟨rid, (es.drop p).take l, sz, [], v, N⟩ es') : es'.length = l ∧ G E M (putF (kill false σ id) id (.row (es.take p ++ es' ++ es.drop (p + l)) sz .free io)) a (mixW w w' N) ∧ Kept E M σ (putF (kill false σ id) id (.row (es.take p ++ es' ++ es.drop (p + l)) sz .free io)) w (mixW w w' N) id := by
  obtain ⟨a0, cap, rfl, h1, h2, h3, h4⟩ := hh
  obtain ⟨k0, k1, k2, F, k3, k4⟩ := hg.files _ _ hf
  simp only [GoodU] at k4
  subst k4
  obtain ⟨hlen, hbk⟩ := hb
  simp only at hlen hbk
  have hl : ((es.drop p).take l).length = l := by simp; clear h4; omega
  have hl' : es'.length = l := by rw [← hl]; exact hlen
  have hnlen : (es.take p ++ es' ++ es.drop (p + l)).length = es.length := by simp; clear h4; omega
  refine ⟨hl', ?_⟩
  obtain ⟨a1, cap1, e1, _, hN0, hN1⟩ := hL
  have e1 : Value.slice a0 l cap = .slice a1 ((es.drop p).take l).length cap1 := e1
  rw [hl] at e1
  cases e1
  simp only at hN0 hN1
  have key : (∀ b ∈ N, M.κ b = some id) ∧ (∃ F, RepRow (mixW w w' N) (M.blk id) sz (M.off id) (es.take p ++ es' ++ es.drop (p + l)) F ∧ GoodU E M (mixW w w' N) id sz (es.take p ++ es' ++ es.drop (p + l)) .free F) ∧
      (∀ c e, w.heap[M.blk id]? = some (.cells c e (0, 0)) → ∃ c', (mixW w w' N).heap[M.blk id]? = some (.cells c' e (0, 0)) ∧ c'.size = c.size ∧ ∀ j, (j < M.off id ∨ M.off id + es.length * sz ≤ j) → c'[j]? = c[j]?) := by
    by_cases hcap : cap = 0
    · have hl0 : l = 0 := by clear h4; omega
      subst hl0
      have he' : es' = [] := List.eq_nil_of_length_eq_zero hl'
      subst he'
      have hes : es.take p ++ [] ++ es.drop (p + 0) = es := by simp
      rw [hes, hN0 hcap]
      have hsame : ∀ b, (mixW w w' []).heap[b]? = w.heap[b]? := fun b => mixW_out (by simp)
      exact ⟨by simp, ⟨[], k3.mono (hsame _) (by simp), rfl⟩, fun c e hce => ⟨c, by rw [hsame]; exact hce, rfl, fun _ _ => rfl⟩⟩
    · obtain ⟨rfl, g1, c0, e0, g2, g3⟩ := h4 hcap
      obtain ⟨b, o, c1, ec, N', e1, n1, n2, n3, n4⟩ := hN1 hcap
      cases e1
      obtain ⟨rfl, F0, n5, n6⟩ := n4
      rw [n3]
      obtain ⟨⟨N2, ⟨rfl, F1, b1, b1'⟩, _, _⟩, c, c', e, b2, b3, b4, b5⟩ := hbk _ _ _ _ rfl hcap
      have hF1 : F1 = [] := List.eq_nil_iff_forall_not_mem.2 (fun c hc => b1' c hc)
      subst hF1
      rw [g2] at b2; cases b2
      have hw1 : (mixW w w' [M.blk id]).heap[M.blk id]? = some (.cells c' e0 (0, 0)) := by
        rw [mixW_in (by simp) hsz (hg.own _ _ g1)]; exact b3
      have hcell : ∀ j, (mixW w w' [M.blk id]).cell? ⟨M.blk id, j, none⟩ = c'[j]? := fun j => cell_of hw1
      have hcell0 : ∀ j, w.cell? ⟨M.blk id, j, none⟩ = c0[j]? := fun j => cell_of g2
      rw [hl] at b5
      have e1 : (p + l) * sz = p * sz + l * sz := Nat.add_mul _ _ _
      obtain ⟨G1, f1, f2⟩ := repRow_prefix (n := p) k3 (w' := mixW w w' [M.blk id]) (fun j hj => by rw [hcell, hcell0]; exact b5 j (.inl (by omega))) (by simp)
      have f3 : RepRow (mixW w w' [M.blk id]) (M.blk id) sz (M.off id + p * sz) es' [] := b1.mono (by rw [hw1, b3]) (by simp)
      obtain ⟨G2, f4, f5⟩ := f1.app (by
        have : (es.take p).length = p := by simp; omega
        rw [this]; exact f3)
      obtain ⟨G3, f6, f7⟩ := k3.drop (p + l) (by omega)
      have f8 := f6.cells (w' := mixW w w' [M.blk id]) (fun j j1 j2 => by rw [hcell, hcell0]; exact b5 j (.inr (by omega))) (fun c hc => by have := f7 c hc; simp at this)
      obtain ⟨G4, f9, f10⟩ := f4.app (by
        have : (es.take p ++ es').length = p + l := by simp; omega
        rw [this]; exact f8)
      have hG4 : G4 = [] := List.eq_nil_iff_forall_not_mem.2 (fun x hx => by
        rcases f10 x hx with h | h
        · rcases f5 x h with h | h
          · have := f2 x h; simp at this
          · simp at h
        · have := f7 x h; simp at this)
      subst hG4
      refine ⟨by simp [g1], ⟨[], f9, rfl⟩, fun c e hce => ?_⟩
      rw [g2] at hce; cases hce
      refine ⟨c', hw1, b4, fun j hj => b5 j ?_⟩
      have e2 : (p + l) * sz ≤ es.length * sz := Nat.mul_le_mul_right _ (by omega)
      omega
  obtain ⟨x1, x2, x3⟩ := key
  obtain ⟨y1, y2⟩ := step_core (w' := w') hg hf x1 hnlen x2 x3
  exact ⟨y1, kept_put hf rfl hnlen y2⟩

/-- A whole row with its own rows below. -/
theorem step_deep (hg : G E M σ a w) {id : Nat} {es : List PV} {sz z : Nat} {zs : List Nat} {io : Bool} (hf : σ.files id = some (.row es sz (.deep z zs) io)) {rid : Nat} {v : Value} (hh : Hdr M w id es.length sz 0 es.length v) {N : List Nat} (hL : Lent1 w ⟨rid, es, sz, z :: zs, v, N⟩) (hκ : ∀ b ∈ N, M.κ b = some id) {w' : World} (hsz : w.heap.size ≤ w'.heap.size) {es' : List PV}
    (hb : Back1 w w' ⟨rid, es, sz, z :: zs, v, N⟩ es') : G E M (putF (kill false σ id) id (.row es' sz (.deep z zs) io)) a (mixW w w' N) ∧ Kept E M σ (putF (kill false σ id) id (.row es' sz (.deep z zs) io)) w (mixW w w' N) id := by
  obtain ⟨a0, cap, rfl, h1, h2, h3, h4⟩ := hh
  obtain ⟨k0, k1, k2, F, k3, k4⟩ := hg.files _ _ hf
  obtain ⟨hlen, hbk⟩ := hb
  simp only at hlen hbk
  obtain ⟨a1, cap1, e1, _, hN0, hN1⟩ := hL
  have e1 : Value.slice a0 es.length cap = .slice a1 es.length cap1 := e1
  cases e1
  simp only at hN0 hN1
  have key : (∃ F, RepRow (mixW w w' N) (M.blk id) sz (M.off id) es' F ∧ GoodU E M (mixW w w' N) id sz es' (.deep z zs) F) ∧
      (∀ c e, w.heap[M.blk id]? = some (.cells c e (0, 0)) → ∃ c', (mixW w w' N).heap[M.blk id]? = some (.cells c' e (0, 0)) ∧ c'.size = c.size ∧ ∀ j, (j < M.off id ∨ M.off id + es.length * sz ≤ j) → c'[j]? = c[j]?) := by
    by_cases hcap : cap = 0
    · have he : es = [] := by apply List.eq_nil_of_length_eq_zero; clear h4; omega
      subst he
      have he' : es' = [] := List.eq_nil_of_length_eq_zero hlen
      subst he'
      rw [hN0 hcap]
      have hsame : ∀ b, (mixW w w' []).heap[b]? = w.heap[b]? := fun b => mixW_out (by simp)
      exact ⟨⟨[], .nil _ _ _, ⟨[], RowO.nil, List.nodup_nil, by simp⟩, by simp⟩, fun c e hce => ⟨c, by rw [hsame]; exact hce, rfl, fun _ _ => rfl⟩⟩
    · obtain ⟨rfl, g1, c0, e0, g2, g3⟩ := h4 hcap
      obtain ⟨b, o, c1, ec, N', e1, n1, n2, n3, n4⟩ := hN1 hcap
      obtain ⟨rfl, rfl⟩ : M.blk id = b ∧ M.off id + 0 * sz = o := by cases e1; exact ⟨rfl, rfl⟩
      rw [Nat.zero_mul, Nat.add_zero] at n2 n4
      rw [Nat.zero_mul, Nat.add_zero] at hbk
      obtain ⟨⟨N2, b1, b6, b7⟩, c, c', e, b2, b3, b4, b5⟩ := hbk _ _ _ _ rfl hcap
      rw [g2] at b2; cases b2
      have hbN : M.blk id ∈ N := by rw [n3]; simp
      have hw1 : (mixW w w' N).heap[M.blk id]? = some (.cells c' e0 (0, 0)) := by
        rw [mixW_in hbN hsz (hg.own _ _ g1)]; exact b3
      have hin : ∀ b ∈ N, (mixW w w' N).heap[b]? = w'.heap[b]? := fun b hb => mixW_in hb hsz (hg.own _ _ (hκ b hb))
      have hrow : RowO noOk (mixW w w' N) (z :: zs) (M.blk id) sz (M.off id) es' N2 := b1.mono (fun c h => h.elim) (fun j _ _ => cell?_same (hin _ hbN) j) (fun c hc => hin c (b7 c hc).1)
      have hdeep : DeepU M (mixW w w' N) id sz (z :: zs) es' := ⟨N2, hrow, b6, fun c hc => ⟨hκ c (b7 c hc).1, by rw [mixW_size]; exact hg.own _ _ (hκ c (b7 c hc).1), (b7 c hc).2⟩⟩
      obtain ⟨F2, f1, f2⟩ := hdeep.rep
      refine ⟨⟨F2, f1, hdeep, f2⟩, fun c e hce => ?_⟩
      rw [g2] at hce; cases hce
      exact ⟨c', hw1, b4, b5⟩
  obtain ⟨x2, x3⟩ := key
  obtain ⟨y1, y2⟩ := step_core (w' := w') hg hf hκ hlen x2 x3
  exact ⟨y1, kept_put hf rfl hlen y2⟩

/-- A row below, of an element. -/
theorem step_lf (hg : G E M σ a w) {id : Nat} {es : List PV} {sz z : Nat} {zs : List Nat} {io : Bool} (hf : σ.files id = some (.row es sz (.deep z zs) io)) {i o rid : Nat} {x : PV} {ys : List PV} (hx : es[i]? = some x) (hy : (leaves x)[o]? = some (.sl ys)) {v : Value}
    (hv : w.cell? ⟨M.blk id, M.off id + i * sz + o, none⟩ = some v) : ∃ N, Lent1 w ⟨rid, ys, z, zs, v, N⟩ ∧ N.Nodup ∧ (∀ b ∈ N, M.κ b = some id ∧ b < w.heap.size) ∧
      ∀ w' es', w.heap.size ≤ w'.heap.size → Back1 w w' ⟨rid, ys, z, zs, v, N⟩ es' → ∃ x', ofLeaves (isAg x) (splice o [.sl es'] (leaves x)) = some x' ∧
        G E M (putF (kill false σ id) id (.row (es.set i x') sz (.deep z zs) io)) a (mixW w w' N) ∧ Kept E M σ (putF (kill false σ id) id (.row (es.set i x') sz (.deep z zs) io)) w (mixW w w' N) id := by
  obtain ⟨k0, k1, kb, F, k3, ⟨N0, n1, n2, n3⟩, n4⟩ := hg.files _ _ hf
  have hox := (List.getElem?_eq_some_iff.1 hy).1
  have hil := (List.getElem?_eq_some_iff.1 hx).1
  obtain ⟨m1, m2, m3, e0, a1, a2, a3⟩ := n1.open (p := o) (k := 1) hx (by omega)
  have hone : ((leaves x).drop o).take 1 = [.sl ys] := by
    rw [List.drop_eq_getElem_cons hox, List.take_succ_cons, List.take_zero, (List.getElem?_eq_some_iff.1 hy).2]
  rw [hone] at a2
  obtain ⟨v0, p1, p2, e1, q1, q2, q3, q4⟩ := a2
  have q4 : p2 = [] := q4
  subst q4
  rw [hv] at q1; cases q1
  simp only [List.append_nil] at e1
  subst e1
  have hsub : ∀ b ∈ m2, b ∈ N0 := fun b hb => by rw [e0]; simp [hb]
  have hL : Lent1 w ⟨rid, ys, z, zs, v, m2⟩ := by
    rcases q3 with ⟨rfl, rfl, a0, rfl⟩ | ⟨c, p, cap, cc, e, N', rfl, k2, k3, k4, k5, rfl, k6⟩
    · exact ⟨a0, 0, rfl, by simp, fun _ => rfl, fun h => absurd rfl h⟩
    · exact ⟨_, cap, rfl, k3, fun h => absurd h k2, fun _ => ⟨c, p, cc, e, N', rfl, k4, k5, rfl, k6⟩⟩
  have hκ : ∀ b ∈ m2, M.κ b = some id ∧ b < w.heap.size := fun b hb => ⟨(n3 b (hsub b hb)).1, (n3 b (hsub b hb)).2.1⟩
  rw [e0] at n2
  obtain ⟨d1, d23, d4⟩ := List.nodup_append.1 n2
  obtain ⟨d2, d3, d5⟩ := List.nodup_append.1 d23
  refine ⟨m2, hL, d2, hκ, fun w' es' hsz hb => ?_⟩
  obtain ⟨hlen, hbk⟩ := hb
  simp only at hlen hbk
  -- the element
  obtain ⟨x', hx', hlx⟩ : ∃ x', ofLeaves (isAg x) (splice o [.sl es'] (leaves x)) = some x' ∧ leaves x' = (leaves x).take o ++ ([.sl es'] ++ (leaves x).drop (o + 1)) := by
    cases hag : isAg x with
    | true => exact ⟨_, rfl, by show _ = _; simp [leaves, splice, List.append_assoc]⟩
    | false =>
      have hzl : leaves x = [x] := by cases x <;> first | rfl | simp [isAg] at hag
      have ho : o = 0 := by rw [hzl] at hox; simp at hox; exact hox
      subst ho
      rw [hzl]
      exact ⟨.sl es', rfl, rfl⟩
  refine ⟨x', hx', ?_⟩
  have hout : ∀ b, b ∉ m2 → (mixW w w' m2).heap[b]? = w.heap[b]? := fun b hb => mixW_out hb
  have hin : ∀ b ∈ m2, (mixW w w' m2).heap[b]? = w'.heap[b]? := fun b hb => mixW_in hb hsz (hκ b hb).2
  have htop : M.blk id ∉ m2 := fun hm => (n3 _ (hsub _ hm)).2.2 rfl
  -- the row below, as it came back
  obtain ⟨m2', r1, r2, r3⟩ : ∃ m2', CellsO (LeafR noOk (mixW w w' m2) zs z) (mixW w w' m2) (M.blk id) (M.off id + i * sz + o) [.sl es'] m2' ∧ m2'.Nodup ∧ ∀ c ∈ m2', c ∈ m2 := by
    have hv' : (mixW w w' m2).cell? ⟨M.blk id, M.off id + i * sz + o, none⟩ = some v := by rw [cell?_same (hout _ htop)]; exact hv
    rcases q3 with ⟨rfl, rfl, a0, rfl⟩ | ⟨c, p, cap, cc, e, N', rfl, k2, k3, k4, k5, rfl, k6⟩
    · have : es' = [] := List.eq_nil_of_length_eq_zero hlen
      subst this
      exact ⟨[], ⟨_, [], [], rfl, hv', q2, .inl ⟨rfl, rfl, a0, rfl⟩, rfl⟩, List.nodup_nil, by simp⟩
    · obtain ⟨⟨N2, b1, b6, b7⟩, c1, c', e', b2, b3, b4, b5⟩ := hbk _ _ _ _ rfl k2
      rw [k4] at b2; cases b2
      have hcm : c ∈ c :: N' := by simp
      refine ⟨c :: N2, ⟨_, c :: N2, [], by simp, hv', q2, .inr ⟨c, p, cap, c', e, N2, by rw [hlen], k2, by rw [hlen]; exact k3, by rw [hin _ hcm]; exact b3, by rw [b4]; exact k5, rfl, ?_⟩, rfl⟩, List.nodup_cons.2 ⟨fun hm => (b7 _ hm).2 rfl, b6⟩, fun d hd => ?_⟩
      · exact b1.mono (fun c h => h.elim) (fun j _ _ => cell?_same (hin _ hcm) j) (fun d hd => hin d (b7 d hd).1)
      · rcases List.mem_cons.1 hd with rfl | hd
        · exact hcm
        · exact (b7 d hd).1
  have hm1 : ∀ c ∈ m1, c ∉ m2 := fun c h1 h2 => d4 c h1 c (by simp [h2]) rfl
  have hm3 : ∀ c ∈ m3, c ∉ m2 := fun c h1 h2 => d5 c h2 c h1 rfl
  have hcellt : ∀ j, (mixW w w' m2).cell? ⟨M.blk id, j, none⟩ = w.cell? ⟨M.blk id, j, none⟩ := fun j => cell?_same (hout _ htop) j
  have hrow : RowO noOk (mixW w w' m2) (z :: zs) (M.blk id) sz (M.off id) (es.set i x') (m1 ++ (m2' ++ m3)) :=
    RowO.close (ys := [.sl es']) n1.1 hx (by simp; omega) hlx
      (a1.mono (fun j _ _ => hcellt j) (fun y v n h hn => h.mono (fun c h => h.elim) (fun c hc => hout c (hm1 c (hn c hc)))))
      r1
      (a3.mono (fun j _ _ => hcellt j) (fun y v n h hn => h.mono (fun c h => h.elim) (fun c hc => hout c (hm3 c (hn c hc)))))
  have hdeep : DeepU M (mixW w w' m2) id sz (z :: zs) (es.set i x') := by
    refine ⟨_, hrow, ?_, fun c hc => ?_⟩
    · refine List.nodup_append.2 ⟨d1, List.nodup_append.2 ⟨r2, d3, fun c h1 d h2 e => hm3 d h2 (by rw [← e]; exact r3 c h1)⟩, fun c h1 d h2 e => ?_⟩
      subst e
      rcases List.mem_append.1 h2 with h2 | h2
      · exact hm1 c h1 (r3 c h2)
      · exact d4 c h1 c (by simp [h2]) rfl
    · rw [mixW_size]
      refine n3 c ?_
      rw [e0]
      simp only [List.mem_append] at hc ⊢
      rcases hc with hc | hc | hc
      · exact .inl hc
      · exact .inr (.inl (r3 c hc))
      · exact .inr (.inr hc)
  obtain ⟨F2, f1, f2⟩ := hdeep.rep
  obtain ⟨y1, y2⟩ := step_core (w' := w') (es2 := es.set i x') hg hf (fun b hb => (hκ b hb).1) (by simp) ⟨F2, f1, hdeep, f2⟩ (fun c e hce => ⟨c, by rw [hout _ htop]; exact hce, rfl, fun _ _ => rfl⟩)
  exact ⟨y1, kept_put hf rfl (by simp) y2⟩

/-- All of a slot that lends. -/
theorem lend_full (hg : G E M σ a w) {s : Slot} {sz : Nat} {zs : List Nat} {id : Nat} (h : lend1 σ sz zs s = some id) {r : PV} (hp : pv1 (stdA P) σ s = some r) {v : Value} (hc : Cl1 E M σ w s v) (rid : Nat) :
    id ∈ refs1 σ s ∧ (∃ es sz u io, notSh u = true ∧ σ.files id = some (.row es sz u io)) ∧ ∃ ys N, r = .sl ys ∧ Lent1 w ⟨rid, ys, sz, zs, v, N⟩ ∧ N.Nodup ∧ (∀ b ∈ N, M.κ b = some id ∧ b < w.heap.size) ∧
      ∀ w' es', w.heap.size ≤ w'.heap.size → Back1 w w' ⟨rid, ys, sz, zs, v, N⟩ es' → ∃ σ2, (∀ K : St → Prop, apply1 (stdA P) σ s es' K → K σ2) ∧ G E M σ2 a (mixW w w' N) ∧ Kept E M σ σ2 w (mixW w w' N) id := by
  obtain ⟨q1, _, ys, N, e, q2, q3, q4⟩ := lend1_ok hg h hp hc rid
  subst e
  unfold lend1 at h
  split at h
  · rename_i id0 sub
    split at h
    · rename_i es sz' u io hf
      split at h
      · rename_i hsz
        have hsz : sz' = sz := by simpa using hsz
        subst hsz
        split at h
        · cases h
          refine ⟨q1, ⟨_, _, _, _, rfl, hf⟩, ys, N, rfl, q2, q3, q4, fun w' es' hs hb => ?_⟩
          cases sub with
          | none =>
            simp only [pv1, content, hf] at hp
            cases hp
            have hh := hc _ _ _ _ hf
            have e : (ys.drop 0).take ys.length = ys := by simp
            have q2' : Lent1 w ⟨rid, (ys.drop 0).take ys.length, sz', [], v, N⟩ := by rw [e]; exact q2
            have hb' : Back1 w w' ⟨rid, (ys.drop 0).take ys.length, sz', [], v, N⟩ es' := by rw [e]; exact hb
            obtain ⟨l1, g2, k2⟩ := step_free hg hf hh q2' hs hb'
            have e2 : ys.take 0 ++ es' ++ ys.drop (0 + ys.length) = es' := by simp
            rw [e2] at g2 k2
            exact ⟨_, fun K hK => by simpa [apply1, hf] using hK, g2, k2⟩
          | some q =>
            obtain ⟨p, l⟩ := q
            simp only [pv1, content, hf] at hp
            cases hp
            have hh := hc _ _ _ _ hf
            obtain ⟨l1, g2, k2⟩ := step_free hg hf hh q2 hs hb
            refine ⟨_, fun K hK => ?_, g2, k2⟩
            simp only [apply1, hf, stdA] at hK
            rw [l1] at hK; exact hK
        · rename_i z zs' z1 zs1
          split at h
          · rename_i hz
            simp only [Bool.and_eq_true, beq_iff_eq] at hz
            obtain ⟨rfl, rfl⟩ := hz
            cases h
            refine ⟨q1, ⟨_, _, _, _, rfl, hf⟩, ys, N, rfl, q2, q3, q4, fun w' es' hs hb => ?_⟩
            simp only [pv1, content, hf] at hp
            cases hp
            have hh := hc _ _ _ _ hf
            obtain ⟨g2, k2⟩ := step_deep hg hf hh q2 (fun b hb => (q4 b hb).1) hs hb
            exact ⟨_, fun K hK => by simpa [apply1, hf] using hK, g2, k2⟩
          · cases h
        · cases h
      · cases h
    · cases h
  · rename_i id0 i o ys0
    split at h
    · rename_i es sz' z zs' io hf
      split at h
      · rename_i hz
        simp only [Bool.and_eq_true, beq_iff_eq] at hz
        obtain ⟨rfl, rfl⟩ := hz
        cases h
        simp only [pv1, hf] at hp
        cases hp
        obtain ⟨⟨x, x1, x2⟩, x3⟩ := hc _ _ _ _ hf
        obtain ⟨N, h1, h2, h3, h4⟩ := step_lf (rid := rid) hg hf x1 x2 x3
        refine ⟨q1, ⟨_, _, _, _, rfl, hf⟩, _, N, rfl, h1, h2, h3, fun w' es' hs hb => ?_⟩
        obtain ⟨x', e1, g2, k2⟩ := h4 w' es' hs hb
        refine ⟨_, fun K hK => ?_, g2, k2⟩
        simp only [apply1, hf] at hK
        obtain ⟨x0, y1, y2⟩ := hK
        rw [x1] at y1; cases y1
        simp only [e1] at y2
        exact y2
      · cases h
    · cases h
  · cases h

/-! ### Several rows -/

theorem mixW_mixW {w w' : World} {A B : List Nat} : mixW (mixW w w' A) w' B = mixW w w' (A ++ B) := by
  have : (mixW (mixW w w' A) w' B).heap = (mixW w w' (A ++ B)).heap := by
    apply Array.ext_getElem?
    intro b
    simp only [mixW, Array.getElem?_mapIdx, Option.map_map]
    cases w.heap[b]? with
    | none => rfl
    | some x =>
      simp only [Option.map_some, Function.comp, List.mem_append]
      by_cases h1 : b ∈ A <;> by_cases h2 : b ∈ B <;> simp [h1, h2]
      cases w'.heap[b]? <;> simp
  show { (mixW w w' A) with heap := (mixW (mixW w w' A) w' B).heap } = { w with heap := (mixW w w' (A ++ B)).heap }
  rw [this]; rfl
theorem mixW_nil {w w' : World} : mixW w w' [] = w := by
  have : (mixW w w' []).heap = w.heap := by
    apply Array.ext_getElem?
    intro b
    exact mixW_out (by simp)
  show { w with heap := (mixW w w' []).heap } = w
  rw [this]

theorem Back1.mix {w' : World} {R : Root} {es' : List PV} {A : List Nat} (h : Back1 w w' R es') (hA : ∀ b ∈ blkL R.v, b ∉ A) : Back1 (mixW w w' A) w' R es' := by
  refine ⟨h.1, fun b o l cap hv hc => ?_⟩
  obtain ⟨h1, c, c', e, h2, h3, h4⟩ := h.2 b o l cap hv hc
  exact ⟨h1, c, c', e, by rw [mixW_out (hA b (by rw [hv]; simp [blkL, blockOf, hc]))]; exact h2, h3, h4⟩
theorem Lent1.free {R : Root} (h : Lent1 w R) (hz : R.zs = []) : R.N = blkL R.v := by
  obtain ⟨a0, cap, h1, h2, h3, h4⟩ := h
  rw [h1]
  by_cases hc : cap = 0
  · rw [h3 hc]; cases a0 <;> simp [blkL, blockOf, hc]
  · obtain ⟨b, o, c, e, N', rfl, _, _, h5, h6⟩ := h4 hc
    rw [hz] at h6
    obtain ⟨rfl, _⟩ := h6
    rw [h5]; simp [blkL, blockOf, hc]
theorem Lent1.top {R : Root} (h : Lent1 w R) : ∀ b ∈ blkL R.v, b ∈ R.N := by
  obtain ⟨a0, cap, h1, h2, h3, h4⟩ := h
  rw [h1]
  by_cases hc : cap = 0
  · cases a0 <;> simp [blkL, blockOf, hc]
  · obtain ⟨b, o, c, e, N', rfl, _, _, h5, h6⟩ := h4 hc
    rw [h5]; simp [blkL, blockOf, hc]

/-- What several steps leave as it was. -/
structure KeptS (E : Env) (M : Mp) (σ σ2 : St) (ids : List Nat) : Prop where
  n : σ2.n = σ.n
  fresh : ∀ i, i ∉ ids → Fresh σ i → Fresh σ2 i
  files : ∀ i es sz u io, notSh u = true → σ.files i = some (.row es sz u io) → ∃ es', σ2.files i = some (.row es' sz u io) ∧ es'.length = es.length

theorem lend1_kept {σ2 : St} {w2 : World} {id : Nat} (k : Kept E M σ σ2 w w2 id) {i : Nat} {sub : Option (Nat × Nat)} (hi : i ≠ id) {sz j : Nat} {zs : List Nat} (h : lend1 σ sz zs (.own i sub) = some j) : lend1 σ2 sz zs (.own i sub) = some j ∧ j = i ∧ pv1 (stdA P) σ2 (.own i sub) = pv1 (stdA P) σ (.own i sub) := by
  have key : ∀ es sz' u io, σ.files i = some (.row es sz' u io) → notSh u = true → lend1 σ2 sz zs (.own i sub) = lend1 σ sz zs (.own i sub) ∧ pv1 (stdA P) σ2 (.own i sub) = pv1 (stdA P) σ (.own i sub) := fun es sz' u io hf hu => by
    have := k.same i _ _ _ _ hi hu hf
    simp only [lend1, pv1, content, hf, this, and_self]
  unfold lend1 at h
  simp only at h
  split at h
  · rename_i es sz' u io hf
    split at h
    · rename_i hsz
      have hu : notSh u = true ∧ j = i := by
        split at h
        · exact ⟨rfl, by cases h; rfl⟩
        · split at h
          · exact ⟨rfl, by cases h; rfl⟩
          · cases h
        · cases h
      obtain ⟨h1, h2⟩ := key _ _ _ _ hf hu.1
      refine ⟨?_, hu.2, h2⟩
      rw [h1]
      simp only [lend1, hf, hsz, if_true]
      exact h
    · cases h
  · cases h
theorem lend1_own {i j sz : Nat} {zs : List Nat} {sub : Option (Nat × Nat)} (h : lend1 σ sz zs (.own i sub) = some j) : j = i := by
  unfold lend1 at h
  simp only at h
  split at h
  · split at h
    · split at h
      · cases h; rfl
      · split at h
        · cases h; rfl
        · cases h
      · cases h
    · cases h
  · cases h

theorem nodupL_iff : ∀ {l : List Nat}, nodupL l = true ↔ l.Nodup
  | [] => by simp [nodupL]
  | i :: l => by simp [nodupL, nodupL_iff (l := l)]

/-- A struct's rows. -/
theorem lendL_full {p : Nat} : ∀ {ls : List Slot} {σ : St} {w : World} {ids : List Nat} {xs : List PV} {cs : List Value} {j : Nat}, G E M σ a w → lendL σ ls = some ids → ids.Nodup → optAll (pv1 (stdA P) σ) ls = some xs → All2 (Cl1 E M σ w) ls cs →
    (∀ id ∈ ids, id ∈ ls.flatMap (refs1 σ) ∧ ∃ es sz u io, notSh u = true ∧ σ.files id = some (.row es sz u io)) ∧ All2 (fun x u => shapeL x u ∧ u.oneCell' = true) xs cs ∧
    (∀ R ∈ rootsS p j xs cs, Lent1 w R ∧ ∀ b ∈ R.N, b < w.heap.size ∧ ∃ id ∈ ids, M.κ b = some id) ∧ ((rootsS p j xs cs).flatMap Root.N).Nodup ∧
    ∀ w' ess, w.heap.size ≤ w'.heap.size → All2 (Back1 w w') (rootsS p j xs cs) ess → ∃ σ2, (∀ K : St → Prop, applyL (stdA P) ls (fillL xs ess) σ K → K σ2) ∧ G E M σ2 a (mixW w w' ((rootsS p j xs cs).flatMap Root.N)) ∧ KeptS E M σ σ2 ids
  | [], σ, w, ids, xs, cs, j, hg, h, _, hp, hc => by
    cases hc
    simp [optAll] at hp; subst hp
    simp [lendL] at h; subst h
    refine ⟨by simp, .nil, by simp [rootsS], by simp [rootsS], fun w' ess hs hb => ?_⟩
    cases hb
    refine ⟨σ, fun K hK => by simpa [applyL, fillL] using hK, ?_, rfl, fun i _ h => h, fun i es sz u io _ h => ⟨es, h, rfl⟩⟩
    show G E M σ a (mixW w w' [])
    rw [mixW_nil]; exact hg
  | s :: ls, σ, w, ids, xs, cs, j, hg, h, hn, hp, hc => by
    cases hc with
    | @cons _ v _ cs' h1 t =>
    simp only [optAll] at hp
    split at hp
    rotate_left
    · cases hp
    rename_i x hx
    split at hp
    rotate_left
    · cases hp
    rename_i xs' hxs
    cases hp
    simp only [lendL] at h
    split at h
    · -- a value
      rename_i u bs
      simp only [pv1, Option.some.injEq] at hx
      subst hx
      obtain ⟨F, r1, _⟩ := h1
      have hv : v = u ∧ u.oneCell' = true := by cases r1 with | val _ h => exact ⟨rfl, h⟩
      obtain ⟨rfl, hone⟩ := hv
      obtain ⟨i1, i2, i3, i4, i5⟩ := lendL_full (p := p) (j := j + 1) hg h hn hxs t
      refine ⟨fun id hid => ⟨by have := (i1 id hid).1; simp only [List.flatMap_cons, List.mem_append]; exact .inr this, (i1 id hid).2⟩, .cons ⟨rfl, hone⟩ i2, i3, i4, fun w' ess hs hb => ?_⟩
      obtain ⟨σ2, q1, q2, q3⟩ := i5 w' ess hs hb
      exact ⟨σ2, fun K hK => q1 K (by simpa [applyL, fillL] using hK), q2, q3⟩
    · -- a row
      rename_i i sub
      split at h
      rotate_left
      · cases h
      rename_i id0 ids' hl hls
      cases h
      have hid0 := lend1_own hl
      subst hid0
      obtain ⟨hni, hn'⟩ := List.nodup_cons.1 hn
      obtain ⟨f1, f2, ys, N, rfl, f3, f4, f5, f6⟩ := lend_full (P := P) hg hl hx h1 (p + 4096 * (j + 1))
      have hN := f3.free rfl
      simp only at hN
      subst hN
      have hvone : v.oneCell' = true := by obtain ⟨a0, cap, e, _⟩ := f3; have e : v = _ := e; rw [e]; rfl
      obtain ⟨i1, i2, i3, i4, i5⟩ := lendL_full (p := p) (j := j + 1) hg hls hn' hxs t
      have hdis : ∀ R ∈ rootsS p (j + 1) xs' cs', ∀ b ∈ R.N, b ∉ blkL v := fun R hR b hb hb2 => by
        obtain ⟨_, id, hid, hk⟩ := (i3 R hR).2 b hb
        have := (f5 b hb2).1
        rw [hk] at this; cases this
        exact hni hid
      refine ⟨fun id hid => ?_, .cons ⟨trivial, hvone⟩ i2, fun R hR => ?_, ?_, fun w' ess hs hb => ?_⟩
      · rcases List.mem_cons.1 hid with rfl | hid
        · exact ⟨by simp only [List.flatMap_cons, List.mem_append]; exact .inl f1, f2⟩
        · exact ⟨by have := (i1 id hid).1; simp only [List.flatMap_cons, List.mem_append]; exact .inr this, (i1 id hid).2⟩
      · rcases List.mem_cons.1 hR with rfl | hR
        · exact ⟨f3, fun b hb => ⟨(f5 b hb).2, _, by simp, (f5 b hb).1⟩⟩
        · exact ⟨(i3 R hR).1, fun b hb => let ⟨q1, id, q2, q3⟩ := (i3 R hR).2 b hb; ⟨q1, id, by simp [q2], q3⟩⟩
      · show (blkL v ++ (rootsS p (j + 1) xs' cs').flatMap Root.N).Nodup
        refine List.nodup_append.2 ⟨f4, i4, fun b hb c hc e => ?_⟩
        subst e
        obtain ⟨R, hR, hbR⟩ := List.mem_flatMap.1 hc
        exact hdis R hR b hbR hb
      · cases hb with
        | @cons _ e1 _ ess' hb1 hbt =>
        obtain ⟨σ1, q1, q2, q3⟩ := f6 w' e1 hs hb1
        -- the others, in the new state
        have hg1 := q2
        have hs1 : (mixW w w' (blkL v)).heap.size ≤ w'.heap.size := by rw [mixW_size]; exact hs
        have hkeep : ∀ (ms : List Slot) (js : List Nat) (ys : List PV), lendL σ ms = some js → id0 ∉ js → optAll (pv1 (stdA P) σ) ms = some ys → lendL σ1 ms = some js ∧ optAll (pv1 (stdA P) σ1) ms = some ys := by
          intro ms
          induction ms with
          | nil => intro js ys h1 _ h2; exact ⟨h1, h2⟩
          | cons m ms ih =>
            intro js ys h1 h2 h3
            simp only [optAll] at h3
            split at h3
            rotate_left
            · cases h3
            rename_i y hy
            split at h3
            rotate_left
            · cases h3
            rename_i ys' hys
            cases h3
            simp only [lendL] at h1
            split at h1
            · rename_i u bs
              obtain ⟨z1, z2⟩ := ih _ _ h1 h2 hys
              have hy' : pv1 (stdA P) σ1 (.pv (.val u) bs) = some y := hy
              exact ⟨by simp only [lendL]; exact z1, by simp only [optAll, hy', z2]⟩
            · rename_i k sub'
              split at h1
              rotate_left
              · cases h1
              rename_i k0 js' hk hjs
              cases h1
              have := lend1_own hk
              subst this
              simp only [List.mem_cons, not_or] at h2
              obtain ⟨z1, z2⟩ := ih _ _ hjs h2.2 hys
              obtain ⟨z3, _, z4⟩ := lend1_kept (P := P) q3 (fun e => h2.1 e.symm) hk
              exact ⟨by simp only [lendL, z3, z1], by simp only [optAll, z4, hy, z2]⟩
            · cases h1
        obtain ⟨k1, k2⟩ := hkeep ls ids' xs' hls hni hxs
        have hcl1 : All2 (Cl1 E M σ1 (mixW w w' (blkL v))) ls cs' := by
          have : ∀ (ms : List Slot) (js : List Nat) (us : List Value), lendL σ ms = some js → id0 ∉ js → All2 (Cl1 E M σ w) ms us → All2 (Cl1 E M σ1 (mixW w w' (blkL v))) ms us := by
            intro ms
            induction ms with
            | nil => intro js us _ _ h; cases h; exact .nil
            | cons m ms ih =>
              intro js us h1 h2 h3
              cases h3 with
              | cons g1 g2 =>
              simp only [lendL] at h1
              split at h1
              · obtain ⟨F, r1, _⟩ := g1
                refine .cons ?_ (ih _ _ h1 h2 g2)
                cases r1 with
                | val _ hh => exact ⟨[], .val _ hh, fun b hb => by simp at hb⟩
              · split at h1
                rotate_left
                · cases h1
                rename_i hjs
                cases h1
                simp only [List.mem_cons, not_or] at h2
                refine .cons ?_ (ih _ _ hjs h2.2 g2)
                have := q3.cl _ _ g1
                simpa [kill1] using this
              · cases h1
          exact this ls ids' cs' hls hni t
        obtain ⟨_, _, j3, _, j5⟩ := lendL_full (p := p) (j := j + 1) hg1 k1 hn' k2 hcl1
        have hbt' : All2 (Back1 (mixW w w' (blkL v)) w') (rootsS p (j + 1) xs' cs') ess' := by
          have := hbt.imp_mem (g := fun R => R) (q := Back1 (mixW w w' (blkL v)) w') (fun R hR es' hh => hh.mix (fun b hb => hdis R hR b ((i3 R hR).1.top b hb)))
          rwa [List.map_id'] at this
        obtain ⟨σ2, q4, q5, q6⟩ := j5 w' ess' hs1 hbt'
        refine ⟨σ2, fun K hK => q4 K (q1 (fun σ' => applyL (stdA P) ls (fillL xs' ess') σ' K) (by simpa [applyL, fillL] using hK)), ?_, ?_⟩
        · rw [mixW_mixW] at q5; exact q5
        · refine ⟨q6.n.trans q3.n, fun i' hi hf => ?_, fun i' es sz u io hu hf => ?_⟩
          · simp only [List.mem_cons, not_or] at hi
            exact q6.fresh i' hi.2 (q3.fresh i' hi.1 hf)
          · obtain ⟨e2, z1, z2⟩ := q3.files i' es sz u io hu hf
            obtain ⟨e3, z3, z4⟩ := q6.files i' e2 sz u io hu z1
            exact ⟨e3, z3, z4.trans z2⟩
    · cases h

/-- What a parameter that is lent hands back. -/
def outOf (r : PV) (ess : List (List PV)) (out : PV) : Prop := match r with
  | .agg ls => out = .agg (fillL ls ess)
  | _ => ∃ es', ess = [es'] ∧ out = .sl es'

/-- A parameter that is lent. -/
theorem lendP_full (hg : G E M σ a w) {f : FuncId} {p : Nat} {s : Slot} {ids : List Nat} (h : lendP σ (ioSz f) (ioDp f) s = some ids) (hn : ids.Nodup) {r : PV} (hp : toPV (stdA P) σ s = some r) {v : Value} (hc : ClS E M σ w s v) :
    (∀ id ∈ ids, id ∈ refsOf σ s ∧ ∃ es sz u io, notSh u = true ∧ σ.files id = some (.row es sz u io)) ∧ ((∃ es, r = .sl es) ∨ ∃ ls cs, r = .agg ls ∧ v = .agg ⟨cs⟩ ∧ All2 (fun x u => shapeL x u ∧ u.oneCell' = true) ls cs) ∧
    ∃ N, (∀ R ∈ rootsP f p r v N, Lent1 w R ∧ ∀ b ∈ R.N, b < w.heap.size ∧ ∃ id ∈ ids, M.κ b = some id) ∧ ((rootsP f p r v N).flatMap Root.N).Nodup ∧
    ∀ w' ess, w.heap.size ≤ w'.heap.size → All2 (Back1 w w') (rootsP f p r v N) ess → ∃ σ2, (∀ (K : St → Prop) out, outOf r ess out → applyP (stdA P) σ s out K → K σ2) ∧ G E M σ2 a (mixW w w' ((rootsP f p r v N).flatMap Root.N)) ∧ KeptS E M σ σ2 ids := by
  have one : ∀ id, lend1 σ (ioSz f) (ioDp f) s = some id → ids = [id] → (∀ K : St → Prop, ∀ es', applyP (stdA P) σ s (.sl es') K → apply1 (stdA P) σ s es' K) → pv1 (stdA P) σ s = some r → Cl1 E M σ w s v → refs1 σ s = refsOf σ s → 
      (∀ id ∈ ids, id ∈ refsOf σ s ∧ ∃ es sz u io, notSh u = true ∧ σ.files id = some (.row es sz u io)) ∧ ((∃ es, r = .sl es) ∨ ∃ ls cs, r = .agg ls ∧ v = .agg ⟨cs⟩ ∧ All2 (fun x u => shapeL x u ∧ u.oneCell' = true) ls cs) ∧
      ∃ N, (∀ R ∈ rootsP f p r v N, Lent1 w R ∧ ∀ b ∈ R.N, b < w.heap.size ∧ ∃ id ∈ ids, M.κ b = some id) ∧ ((rootsP f p r v N).flatMap Root.N).Nodup ∧
      ∀ w' ess, w.heap.size ≤ w'.heap.size → All2 (Back1 w w') (rootsP f p r v N) ess → ∃ σ2, (∀ (K : St → Prop) out, outOf r ess out → applyP (stdA P) σ s out K → K σ2) ∧ G E M σ2 a (mixW w w' ((rootsP f p r v N).flatMap Root.N)) ∧ KeptS E M σ σ2 ids := by
    intro id hl hids happ hpv hc1 hrf
    obtain ⟨q1, q2, ys, N, rfl, q3, q4, q5, q6⟩ := lend_full (P := P) hg hl hpv hc1 p
    subst hids
    refine ⟨fun i hi => ?_, .inl ⟨ys, rfl⟩, N, ?_, ?_, fun w' ess hs hb => ?_⟩
    · simp only [List.mem_singleton] at hi; subst hi
      exact ⟨by rw [← hrf]; exact q1, q2⟩
    · intro R hR
      simp only [rootsP, List.mem_singleton] at hR
      subst hR
      exact ⟨q3, fun b hb => ⟨(q5 b hb).2, id, by simp, (q5 b hb).1⟩⟩
    · simpa [rootsP] using q4
    · cases hb with
      | @cons _ e1 _ ess' hb1 ht =>
      cases ht
      obtain ⟨σ2, z1, z2, z3⟩ := q6 w' e1 hs hb1
      refine ⟨σ2, fun K out ho hK => ?_, by simpa [rootsP] using z2, z3.n, fun i hi hf => z3.fresh i (by simpa using hi) hf, z3.files⟩
      obtain ⟨e2, h1, rfl⟩ := ho
      cases h1
      exact z1 K (happ K _ hK)
  cases s with
  | ag ls =>
    obtain ⟨cs, rfl, hc⟩ := hc
    simp only [toPV, pv2] at hp
    split at hp
    · rename_i xs hx
      cases hp
      obtain ⟨i1, i2, i3, i4, i5⟩ := lendL_full (P := P) (p := p) (j := 0) hg h hn hx hc
      refine ⟨fun id hid => i1 id hid, .inr ⟨xs, cs, rfl, rfl, i2⟩, [], i3, i4, fun w' ess hs hb => ?_⟩
      obtain ⟨σ2, z1, z2, z3⟩ := i5 w' ess hs hb
      refine ⟨σ2, fun K out ho hK => z1 K ?_, z2, z3⟩
      have ho : out = .agg (fillL xs ess) := ho
      subst ho
      exact hK
    · cases hp
  | own i sub =>
    simp only [lendP] at h
    split at h
    · rename_i id hl
      cases h
      exact one id hl rfl (fun K es' hK => hK) (by simpa [toPV, pv2] using hp) hc rfl
    · cases h
  | lf i x o ys =>
    simp only [lendP] at h
    split at h
    · rename_i id hl
      cases h
      exact one id hl rfl (fun K es' hK => hK) (by simpa [toPV, pv2] using hp) hc rfl
    · cases h
  | _ => simp [lendP, lend1] at h

end lend
end Go.VAI

namespace Go.VAI

theorem vw_split {w' : World} {V : Nat → Nat → Nat → Value → Prop} {ok : Nat → Prop} {rs : RS} {v : Value} {N : List Nat} (h : RClS w' V ok rs v N) :
    ∃ r0 v0, RClS w' V ok r0 v0 N ∧ ((r0 = rs ∧ v0 = v ∧ ∀ p o l, rs ≠ .vw p o l) ∨ ∃ p o l, rs = .vw p o l ∧ r0 = .tup [] ∧ V p o l v) := by
  cases rs with
  | vw p o l =>
    obtain ⟨rfl, hV⟩ := h
    exact ⟨.tup [], .tuple ⟨[]⟩, ⟨[], rfl, .nil⟩, .inr ⟨p, o, l, rfl, rfl, hV⟩⟩
  | pv r => exact ⟨_, v, h, .inl ⟨rfl, rfl, by intro p o l h; cases h⟩⟩
  | row es sz u => exact ⟨_, v, h, .inl ⟨rfl, rfl, by intro p o l h; cases h⟩⟩
  | ag ls => exact ⟨_, v, h, .inl ⟨rfl, rfl, by intro p o l h; cases h⟩⟩
  | tup ls => exact ⟨_, v, h, .inl ⟨rfl, rfl, by intro p o l h; cases h⟩⟩

theorem isVw_none {io : List Nat} {rs : RS} (h : ∀ p o l, rs ≠ .vw p o l) : isVw io rs = none := by
  cases io with
  | nil => rfl
  | cons x xs => cases rs <;> first | rfl | exact absurd rfl (h _ _ _)

theorem adopt1_noio (d : Nat) (bs : List Nat) (c : Nat) (r : RS) : ∀ p ∈ (adopt1 d bs c r).2.1, ∀ es sz u, p.2 ≠ .row es sz u true := by
  intro p hp es sz u e
  cases r with
  | row es0 sz0 u0 => cases u0 <;> simp [adopt1] at hp <;> subst hp <;> cases e
  | _ => simp [adopt1] at hp
theorem adoptL_noio {f : Nat → RS → Slot × List (Nat × File) × Nat} (hf : ∀ c r, ∀ p ∈ (f c r).2.1, ∀ es sz u, p.2 ≠ .row es sz u true) : ∀ (ls : List RS) (c : Nat), ∀ p ∈ (adoptL f c ls).2.1, ∀ es sz u, p.2 ≠ .row es sz u true
  | [], _, p, hp => by simp [adoptL] at hp
  | x :: xs, c, p, hp => by
    simp only [adoptL] at hp
    rcases List.mem_append.1 hp with hp | hp
    · exact hf c x p hp
    · exact adoptL_noio hf xs _ p hp
theorem adopt2_noio (d : Nat) (bs : List Nat) (c : Nat) (r : RS) : ∀ p ∈ (adopt2 d bs c r).2.1, ∀ es sz u, p.2 ≠ .row es sz u true := by
  cases r with
  | ag ls => exact adoptL_noio (fun c r => adopt1_noio d bs c r) ls c
  | pv r => exact adopt1_noio d bs c (.pv r)
  | row es sz u => exact adopt1_noio d bs c (.row es sz u)
  | tup ls => exact adopt1_noio d bs c (.tup ls)
  | vw p o l => exact adopt1_noio d bs c (.vw p o l)
theorem adopt_noio (d : Nat) (bs : List Nat) (r : RS) : ∀ p ∈ (adopt d bs r).2, ∀ es sz u, p.2 ≠ .row es sz u true := by
  cases r with
  | tup ls => exact adoptL_noio (fun c r => adopt2_noio d bs c r) ls 0
  | ag ls => exact adopt2_noio d bs 0 (.ag ls)
  | pv r => exact adopt2_noio d bs 0 (.pv r)
  | row es sz u => exact adopt2_noio d bs 0 (.row es sz u)
  | vw p o l => exact adopt2_noio d bs 0 (.vw p o l)

variable {E : Env} {P : Program}

theorem flatten_idx {bl : List (List Nat)} (hn : bl.flatten.Nodup) : ∀ {j : Nat} {B : List Nat} {b : Nat}, bl[j]? = some B → b ∈ B → bl.findIdx? (fun B => B.elem b) = some j := by
  induction bl with
  | nil => intro j B b h; simp at h
  | cons x bl ih =>
    intro j B b h hb
    rw [List.flatten_cons, List.nodup_append] at hn
    rw [List.findIdx?_cons]
    cases j with
    | zero => simp at h; subst h; simp [hb]
    | succ j =>
      simp at h
      have hnx : b ∉ x := fun hx => hn.2.2 b hx b (List.mem_flatten.2 ⟨B, List.mem_of_getElem? h, hb⟩) rfl
      have : (x.elem b) = false := by simpa using hnx
      rw [this, ih hn.2.1 h hb]; rfl

section ops
variable {M : Mp} {σ : St} {a : Act} {w : World} {o : Oper} {K : St → Prop} {Q : Exit → Act → World → Prop}

theorem enter_run {c : Call} (hop : o.op = .call c) {fv : Operand} (hc : c.callee = .value fv) {f : FuncId} {cs : List Value} (hf : a.eval fv = .func (.func f) #[] ⟨cs⟩) (hcal : Callable P f) :
    (execOp a.eval o).run P w = .ok (.enter f ⟨c.args.toList.map a.eval ++ cs⟩) w := by
  obtain ⟨fn, h1, h2, h3⟩ := hcal
  have h2' : ¬ fn.body = none := by cases hb : fn.body <;> simp [hb] at h2 ⊢
  have h3' : ¬ fn.name = "runtime.NumGoroutine" := by simpa using h3
  have ha : c.args.map a.eval ++ ⟨cs⟩ = (⟨c.args.toList.map a.eval ++ cs⟩ : Array Value) := by apply Array.ext'; simp
  simp [execOp, hop, resolve, hc, hf, Deferred.ofValue, invoke, callFunc, h1, h2', h3', ha]

theorem op_call (hg : G E M σ a w) {d : Nat} (hdst : o.dst = some d) (hdn : d < σ.n) {c : Call} (hop : o.op = .call c) {fv : Operand} (hc : c.callee = .value fv)
    (h : mkF (stdA P) σ d (fun σ => match capsOf (eval σ fv) with
          | some (f, caps) => callS (stdA P) d f (c.args.toList.map (eval σ) ++ caps) σ K
          | none => False)) : o.wp P a w (Nx E K) Q := by
  obtain ⟨hlt, hio, hg1, hfr, hκ, hK⟩ := mkF_ok hg h
  have hcl := cls_lt hlt
  generalize hM1 : M.drop d = M1 at hg1 hκ
  generalize hσ1 : retire (stdA P) σ d = σ1 at hg1 hfr hK
  have hn1 : σ1.n = σ.n := by rw [← hσ1]; rfl
  split at hK
  · rename_i f caps hcaps
    obtain ⟨cs, hfv, hcs⟩ := caps_ok hg1 (eval_cl hg1 fv) hcaps
    have hcs' : All2 (ClS E M1 σ1 w) caps cs := by
      have := hcs.imp (g := fun s => s) (q := ClS E M1 σ1 w) (fun s v hh => ClS.of1 hh)
      rw [List.map_id'] at this; exact this
    have hargs := (args_cl hg1 c.args.toList).append hcs'
    generalize hss : c.args.toList.map (eval σ1) ++ caps = ss at hK hargs
    generalize hvs : c.args.toList.map a.eval ++ cs = vs at hargs
    unfold callS at hK
    split at hK
    · rename_i ps hps
      obtain ⟨l1, Fs, l2, hFs⟩ := feet_ok hg1 hps hargs
      have l3 := hargs.length
      split at hK
      · rename_i hlend
        obtain ⟨hcallable, rs, outs, hKK, hcalls⟩ := hK
        -- what is lent
        have hone : inout f = [] ∨ ∃ p s ids, inout f = [p] ∧ ss[p]? = some s ∧ lendP σ1 (ioSz f) (ioDp f) s = some ids ∧ ids.Nodup ∧ (p < ioMax ∧ p < 4096) ∧ ∀ k s', k ≠ p → ss[k]? = some s' → ∀ id ∈ ids, id ∉ refsOf σ1 s' := by
          match hq : inout f with
          | [] => exact .inl rfl
          | [p] =>
            rw [hq] at hlend
            simp only [lendOk] at hlend
            split at hlend
            · rename_i s hs
              split at hlend
              · rename_i ids hids
                simp only [Bool.and_eq_true, nodupL_iff, Nat.blt_eq] at hlend
                obtain ⟨⟨⟨h1, h2⟩, h3⟩, h4⟩ := hlend
                refine .inr ⟨p, s, ids, rfl, hs, hids, h1, ⟨h2, h3⟩, fun k s' hk hs' id hid => ?_⟩
                have := List.all_eq_true.1 h4 (s', k) (by rw [List.mem_zipIdx_iff_getElem?]; exact hs')
                simp only [Bool.or_eq_true, beq_iff_eq] at this
                rcases this with h | h
                · exact absurd h hk
                · have := List.all_eq_true.1 h id hid
                  simpa using this
              · cases hlend
            · cases hlend
          | p :: q :: r => rw [hq] at hlend; simp [lendOk] at hlend
        have hget : ∀ {k : Nat} {r : PV}, ps[k]? = some r → ∃ s v F, ss[k]? = some s ∧ vs[k]? = some v ∧ Fs[k]? = some F := by
          intro k r hr
          have hk := (List.getElem?_eq_some_iff.1 hr).1
          exact ⟨ss[k]'(by omega), vs[k]'(by omega), Fs[k]'(by omega), List.getElem?_eq_getElem _, List.getElem?_eq_getElem _, List.getElem?_eq_getElem _⟩
        -- the blocks of what is lent; the state behind the call
        obtain ⟨Fs', g1, g2, g3, g4, g5, g6, g7⟩ : ∃ Fs' : List (List Nat), Fs'.length = ps.length ∧ (∀ k, k ∉ inout f → Fs'[k]? = Fs[k]?) ∧
            (∀ k r v, ps[k]? = some r → vs[k]? = some v → k ∈ inout f → (∃ es, r = .sl es) ∨ ∃ ls cs, r = .agg ls ∧ v = .agg ⟨cs⟩ ∧ All2 (fun x u => shapeL x u ∧ u.oneCell' = true) ls cs) ∧
            (∀ k ∈ inout f, k < ps.length ∧ k < ioMax ∧ k < 4096) ∧ ((rootsOf f ps vs Fs').flatMap Root.N).Nodup ∧
            (∀ R ∈ rootsOf f ps vs Fs', Lent1 w R ∧ ∀ b ∈ R.N, b < w.heap.size ∧ ∃ id, M1.κ b = some id ∧ id ∈ ss.flatMap (refsOf σ1) ∧ ∀ k s', k ∉ inout f → ss[k]? = some s' → id ∉ refsOf σ1 s') ∧
            ∀ w' ess, w.heap.size ≤ w'.heap.size → All2 (Back1 w w') (rootsOf f ps vs Fs') ess → ∃ σ2, (∀ K' : St → Prop, applyOuts (stdA P) ss (inout f) (outsOf f ps ess) σ1 K' → K' σ2) ∧ G E M1 σ2 a (mixW w w' ((rootsOf f ps vs Fs').flatMap Root.N)) ∧
              (∀ i, cls i = d → Fresh σ2 i) ∧ σ2.n = σ1.n ∧ ∀ i es0 sz u io, notSh u = true → σ1.files i = some (.row es0 sz u io) → ∃ es', σ2.files i = some (.row es' sz u io) ∧ es'.length = es0.length := by
          rcases hone with e | ⟨p, s, ids, e, hs, hl, hnd, hsm, hoth⟩
          · refine ⟨Fs, by omega, fun _ _ => rfl, fun k r v _ _ hk => by rw [e] at hk; simp at hk, fun k hk => by rw [e] at hk; simp at hk, by simp [rootsOf, e], by simp [rootsOf, e], fun w' ess _ hb => ?_⟩
            have hr : rootsOf f ps vs Fs = [] := by simp [rootsOf, e]
            rw [hr] at hb
            cases hb
            refine ⟨σ1, fun K' hK' => by simpa [applyOuts, outsOf, e] using hK', ?_, hfr, rfl, fun i es0 sz u io _ h => ⟨es0, h, rfl⟩⟩
            rw [hr]
            show G E M1 σ1 a (mixW w w' [])
            rw [mixW_nil]; exact hg1
          · have hp := (List.getElem?_eq_some_iff.1 hs).1
            have hu : vs[p]? = some (vs[p]'(by omega)) := List.getElem?_eq_getElem _
            have hr : ps[p]? = some (ps[p]'(by omega)) := List.getElem?_eq_getElem _
            have hF : Fs[p]? = some (Fs[p]'(by omega)) := List.getElem?_eq_getElem _
            obtain ⟨t1, _, _⟩ := hFs p _ _ _ _ hs hr hu hF
            obtain ⟨i1, i2, N, i3, i4, i5⟩ := lendP_full (P := P) (p := p) hg1 hl hnd t1 (hargs.get hs hu)
            have hN : (Fs.set p N)[p]? = some N := by rw [List.getElem?_set_self (by omega)]
            have hro : rootsOf f ps vs (Fs.set p N) = rootsP f p (ps[p]'(by omega)) (vs[p]'(by omega)) N := by
              simp only [rootsOf, e, hr, hu, hN]
            have hmem : ∀ k, k ∈ inout f ↔ k = p := fun k => by rw [e]; simp
            refine ⟨Fs.set p N, by simp; omega, fun k hk => ?_, fun k r v hr' hv' hk => ?_, fun k hk => ?_, by rw [hro]; exact i4, fun R hR => ?_, fun w' ess hs' hb => ?_⟩
            · rw [List.getElem?_set_ne (fun h => hk ((hmem k).2 h.symm))]
            · rw [hmem] at hk; subst hk
              rw [hr] at hr'; cases hr'
              rw [hu] at hv'; cases hv'
              exact i2
            · rw [hmem] at hk; subst hk; exact ⟨by omega, hsm⟩
            · rw [hro] at hR
              refine ⟨(i3 R hR).1, fun b hb => ?_⟩
              obtain ⟨q1, id, q2, q3⟩ := (i3 R hR).2 b hb
              exact ⟨q1, id, q3, List.mem_flatMap.2 ⟨s, List.mem_of_getElem? hs, (i1 id q2).1⟩, fun k s' hk hs' => hoth k s' (fun h => hk ((hmem k).2 h)) hs' id q2⟩
            · rw [hro] at hb ⊢
              obtain ⟨σ2, z1, z2, z3⟩ := i5 w' ess hs' hb
              refine ⟨σ2, fun K' hK' => ?_, z2, fun i hi => z3.fresh i (fun hm => ?_) (hfr i hi), z3.n, z3.files⟩
              · -- what is handed back
                have hout : ∃ out, outsOf f ps ess = [out] ∧ outOf (ps[p]'(by omega)) ess out := by
                  simp only [outsOf, e, hr]
                  rcases i2 with ⟨es, e1⟩ | ⟨ls, cs, e1, _⟩
                  · rw [e1] at hb ⊢
                    cases hb with
                    | @cons _ e2 _ ess' _ ht =>
                    cases ht
                    exact ⟨.sl e2, rfl, e2, rfl, rfl⟩
                  · rw [e1]; exact ⟨_, rfl, rfl⟩
                obtain ⟨out, o1, o2⟩ := hout
                rw [e, o1] at hK'
                simp only [applyOuts, hs] at hK'
                exact z1 K' out o2 hK'
              · obtain ⟨_, es0, sz0, u0, io0, _, hf0⟩ := i1 i hm
                have := (hfr i hi).none; rw [hf0] at this; cases this
        have hok : ArgsOk P f w ps vs Fs' := by
          refine ⟨by omega, g1, fun k r v F hr hv hF hk => ?_, g3, fun R hR => ⟨(g6 R hR).1, fun b hb => ((g6 R hR).2 b hb).1⟩, g5, g4, ?_⟩
          · obtain ⟨s, _, _, hs, _, _⟩ := hget hr
            rw [g2 k hk] at hF
            obtain ⟨t1, t2, t3⟩ := hFs k s r v F hs hr hv hF
            refine ⟨t2, fun b hb => (t3 b hb).1, fun R hR b hb hbF => ?_⟩
            obtain ⟨_, id, q1, _, q2⟩ := (g6 R hR).2 b hb
            obtain ⟨_, h2⟩ := t3 b hbF
            rcases h2 with ⟨h2, _⟩ | ⟨i, hi, h2⟩
            · rw [q1] at h2; cases h2
            · rw [q1] at h2; cases h2; exact q2 k s hk hs hi
          · rcases hone with e | ⟨p, _, _, e, _⟩
            · exact .inl e
            · exact .inr ⟨p, e⟩
        have hcall := hcalls w vs Fs' hok
        have hrun := enter_run (P := P) (w := w) hop hc hfv hcallable
        rw [hvs] at hrun
        unfold Oper.wp
        rw [hrun, Oper.upon_enter]
        refine Calls.mono hcall (fun e w' hh => ?_)
        obtain ⟨v, rfl, hpost⟩ := hh
        show Nx E K (a.put o.dst v) w'
        -- the rows that come back
        have hfeet : ∀ b, Feet f ps vs Fs' b → b < w.heap.size ∧ ((M1.κ b = none ∧ (E.w0.heap.size ≤ b ∨ E.R b)) ∨ ∃ id ∈ ss.flatMap (refsOf σ1), M1.κ b = some id) := by
          intro b hb
          rcases hb with ⟨k, F, hF, hk, hbF⟩ | ⟨R, hR, hbR⟩
          · rw [g2 k hk] at hF
            have hk' := (List.getElem?_eq_some_iff.1 hF).1
            obtain ⟨_, _, t3⟩ := hFs k (ss[k]'(by omega)) (ps[k]'(by omega)) (vs[k]'(by omega)) F (List.getElem?_eq_getElem _) (List.getElem?_eq_getElem _) (List.getElem?_eq_getElem _) hF
            obtain ⟨h1, h2⟩ := t3 b hbF
            exact ⟨h1, h2.imp (fun h => h) (fun ⟨i, hi, h⟩ => ⟨i, List.mem_flatMap.2 ⟨_, List.getElem_mem _, hi⟩, h⟩)⟩
          · obtain ⟨q0, id, q1, q2, _⟩ := (g6 R hR).2 b hbR
            exact ⟨q0, .inr ⟨id, q2, q1⟩⟩
        obtain ⟨ess, hess, houts⟩ := hpost.outs
        obtain ⟨σ2, ha, hg2, hfr2, hn2, hkeep⟩ := g7 w' ess hpost.size hess
        rw [houts] at hKK
        generalize hw1 : mixW w w' ((rootsOf f ps vs Fs').flatMap Root.N) = w1 at hg2
        have z1 : w1.heap.size = w.heap.size := by rw [← hw1]; exact mixW_size
        have z2 : ∀ b, b < w.heap.size → w'.heap[b]? = w1.heap[b]? := fun b hb => by
          rw [← hw1]
          by_cases hm : b ∈ (rootsOf f ps vs Fs').flatMap Root.N
          · rw [mixW_in hm hpost.size hb]
          · rw [mixW_out hm]
            exact hpost.frame b hb (fun R hR hbR => hm (List.mem_flatMap.2 ⟨R, hR, hbR⟩))
        have z3 : w1.os = w.os := by rw [← hw1]; rfl
        have z4 : w1.tape = w.tape ∧ w1.drawn ≤ w.drawn := by rw [← hw1]; exact ⟨rfl, Nat.le_refl _⟩
        have z5 : w1.output = w.output := by rw [← hw1]; rfl
        have hKK := ha _ hKK
        simp only at hKK
        generalize hbs : ss.flatMap (refsOf σ1) = bs at hKK hfeet
        obtain ⟨N, hN1, hN2, hres⟩ := hpost.res
        obtain ⟨r0, v0, hres0, hcase⟩ := vw_split hres
        obtain ⟨c', bl, hc', hNbl, hfst, hcl2⟩ := adopt_ok (E := E) (d := d) (bs := bs) hres0
        have hnio := adopt_noio d bs r0
        generalize hsf : adopt d bs r0 = sf at hfst hcl2 hnio
        obtain ⟨s, fs⟩ := sf
        simp only at hfst hcl2 hnio
        have hids : ∀ p ∈ fs, ∃ j, j < bl.length ∧ p.1 = d + 4096 * j := by
          intro p hp
          have : p.1 ∈ fs.map Prod.fst := List.mem_map_of_mem hp
          rw [hfst] at this
          obtain ⟨j, hj, e⟩ := List.mem_map.1 this
          rw [List.mem_range'_1] at hj
          exact ⟨j, by omega, e.symm⟩
        have hcls : ∀ j, cls (d + 4096 * j) = d := fun j => by simp only [cls]; omega
        have hnod : (fs.map Prod.fst).Nodup := by
          rw [hfst]
          refine List.Pairwise.map (S := fun x y => x ≠ y) _ (fun x y hne e => hne ?_) (List.nodup_range' ..)
          have : d + 4096 * x = d + 4096 * y := e
          omega
        -- the map behind the call
        let M2 : Mp := { κ := fun b => if b < w.heap.size then M1.κ b else (bl.findIdx? (fun B => B.elem b)).map (d + 4096 * ·),
                         blk := fun j => if cls j = d then (match bl[j / 4096]? with
                           | some (b :: _) => b
                           | _ => 0) else M1.blk j,
                         off := fun j => if cls j = d then 0 else M1.off j }
        have hdiv : ∀ j, (d + 4096 * j) / 4096 = j := fun j => by omega
        have hgrow : Grow d M1 M2 w1 w' := {
          heap := fun b hb => by rw [z1] at hb; exact z2 b hb
          size := by rw [z1]; exact hpost.size
          κ := fun b hb => by rw [z1] at hb; show (if b < w.heap.size then _ else _) = _; rw [if_pos hb]
          κn := fun b j hb hk => by
            rw [z1] at hb
            have hk' : (if b < w.heap.size then M1.κ b else (bl.findIdx? (fun B => B.elem b)).map (d + 4096 * ·)) = some j := hk
            rw [if_neg (by omega)] at hk'
            cases hq : bl.findIdx? (fun B => B.elem b) with
            | none => rw [hq] at hk'; cases hk'
            | some q =>
              rw [hq] at hk'; cases hk'
              rw [List.findIdx?_eq_some_iff_getElem] at hq
              obtain ⟨hlt, h1, _⟩ := hq
              refine ⟨hcls q, (hN2 b (by rw [hNbl]; exact List.mem_flatten.2 ⟨bl[q], List.getElem_mem _, by simpa using h1⟩)).2⟩
          blk := fun j hj => ⟨by show (if cls j = d then _ else _) = _; rw [if_neg hj], by show (if cls j = d then _ else _) = _; rw [if_neg hj]⟩
          os := by rw [z3]; exact hpost.os
          tape := ⟨by rw [z4.1]; exact hpost.tape.1, Nat.le_trans z4.2 hpost.tape.2⟩
          out := by rw [z5]; exact hpost.out }
        have hbsd : ∀ j, d + 4096 * j ∉ bs := by
          intro j hj
          rw [← hbs] at hj
          obtain ⟨s0, hs0, hj⟩ := List.mem_flatMap.1 hj
          have hf0 := hfr (d + 4096 * j) (hcls j)
          have hs0c : ∃ v0, ClS E M1 σ1 w s0 v0 := by
            obtain ⟨k, hk, e⟩ := List.getElem_of_mem hs0
            have hv0 : vs[k]? = some (vs[k]'(by omega)) := List.getElem?_eq_getElem _
            exact ⟨_, hargs.get (by rw [List.getElem?_eq_getElem hk, e]) hv0⟩
          have hnr : nrS (d + 4096 * j) s0 ∨ (nr1 (d + 4096 * j) s0 ∧ ∃ v0, Cl1 E M1 σ1 w s0 v0) := by
            rw [← hss] at hs0
            rcases List.mem_append.1 hs0 with hs0 | hs0
            · obtain ⟨x, _, rfl⟩ := List.mem_map.1 hs0
              exact .inl (fresh_eval hf0 x)
            · right
              refine ⟨?_, ?_⟩
              rotate_left
              · obtain ⟨k, hk, e⟩ := List.getElem_of_mem hs0
                have hlc := hcs.length
                have hv0 : cs[k]? = some (cs[k]'(by omega)) := List.getElem?_eq_getElem _
                exact ⟨_, hcs.get (by rw [List.getElem?_eq_getElem hk, e]) hv0⟩
              have hfe := fresh_eval hf0 fv
              unfold capsOf at hcaps
              split at hcaps
              · rename_i f1 cps bs0 he
                cases hcaps
                obtain ⟨x, _, rfl⟩ := List.mem_map.1 hs0
                rw [he] at hfe
                unfold mkpv
                split
                · show _ ∉ ([] : List Nat); simp
                · exact hfe
              · rename_i f1 cps he
                cases hcaps
                rw [he] at hfe
                exact hfe s0 hs0
              · cases hcaps
          have hr2 : d + 4096 * j ∉ refsOf σ1 s0 := by
            rcases hnr with hnr | ⟨hnr, v0, hv0⟩
            · obtain ⟨v0, hv0⟩ := hs0c
              cases s0 with
              | clo f0 ls =>
                simp only [refsOf, List.mem_flatMap, not_exists, not_and]
                intro x hx
                have := hnr x hx
                obtain ⟨cs0, _, hcs0⟩ := hv0
                obtain ⟨k, hk, e⟩ := List.getElem_of_mem hx
                have hlc := hcs0.length
                have hx1 := hcs0.get (show ls[k]? = some x by rw [List.getElem?_eq_getElem hk, e]) (List.getElem?_eq_getElem (show k < cs0.length by omega))
                cases x with
                | ag ls' => exact hx1.elim
                | clo f1 ls' => simp [refs2, refs1]
                | tup ls' => simp [refs2, refs1]
                | pv r b0 => exact fresh_refs2 hf0 (s := .pv r b0) this
                | own i sub => exact fresh_refs2 hf0 (s := .own i sub) this
                | ref i o => exact fresh_refs2 hf0 (s := .ref i o) this
                | rref i x o => exact fresh_refs2 hf0 (s := .rref i x o) this
                | lf i x o yl => exact fresh_refs2 hf0 (s := .lf i x o yl) this
                | undef => simp [refs2, refs1]
                | dead => simp [refs2, refs1]
              | ag ls => exact fresh_refs2 hf0 (s := .ag ls) hnr
              | pv r b0 => exact fresh_refs2 hf0 (s := .pv r b0) hnr
              | own i sub => exact fresh_refs2 hf0 (s := .own i sub) hnr
              | ref i o => exact fresh_refs2 hf0 (s := .ref i o) hnr
              | rref i x o => exact fresh_refs2 hf0 (s := .rref i x o) hnr
              | lf i x o yl => exact fresh_refs2 hf0 (s := .lf i x o yl) hnr
              | tup ls => simp [refsOf, refs2, refs1]
              | undef => simp [refsOf, refs2, refs1]
              | dead => simp [refsOf, refs2, refs1]
            · cases s0 with
              | pv r b0 => exact fresh_refs2 hf0 (s := .pv r b0) hnr
              | own i sub => exact fresh_refs2 hf0 (s := .own i sub) hnr
              | ref i o => exact fresh_refs2 hf0 (s := .ref i o) hnr
              | rref i x o => exact fresh_refs2 hf0 (s := .rref i x o) hnr
              | lf i x o yl => exact fresh_refs2 hf0 (s := .lf i x o yl) hnr
              | ag ls => exact hv0.elim
              | clo f0 ls => exact hv0.elim
              | tup ls => exact hv0.elim
              | undef => simp [refsOf, refs2, refs1]
              | dead => simp [refsOf, refs2, refs1]
          exact hr2 hj
        obtain ⟨hs, hfiles⟩ := hcl2 M2 (putFs σ2 fs) (fun j B hj => by
          rw [Nat.zero_add]
          refine ⟨by show (if cls (d + 4096 * j) = d then _ else _) = _; rw [if_pos (hcls j)], fun b O hb => ?_⟩
          refine ⟨by show (if cls (d + 4096 * j) = d then _ else _) = _; rw [if_pos (hcls j), hdiv, hj, hb], fun x hx => ?_⟩
          have hxN : x ∈ N := by rw [hNbl]; exact List.mem_flatten.2 ⟨B, List.mem_of_getElem? hj, hx⟩
          show (if x < w.heap.size then _ else _) = _
          rw [if_neg (by have := (hN2 x hxN).1; omega), flatten_idx (by rw [← hNbl]; exact hN1) hj hx]
          rfl) (fun p hp => putFs_in hnod p hp) (fun F hF b hb => by
            obtain ⟨f1, f2, f3⟩ := hF b hb
            refine ⟨f1, ?_⟩
            rcases Nat.lt_or_ge b w.heap.size with hlt' | hge
            · have hfe : Feet f ps vs Fs' b := by
                rcases f3 with h | h
                · omega
                · exact h
              obtain ⟨_, h2⟩ := hfeet b hfe
              show ((if b < w.heap.size then _ else _) = none ∧ _) ∨ ∃ id ∈ bs, (if b < w.heap.size then _ else _) = some id
              rw [if_pos hlt']; exact h2
            · left
              refine ⟨?_, .inl (Nat.le_trans hg1.size hge)⟩
              show (if b < w.heap.size then _ else _) = none
              rw [if_neg (by omega)]
              cases hq : bl.findIdx? (fun B => B.elem b) with
              | none => rfl
              | some q =>
                exfalso
                rw [List.findIdx?_eq_some_iff_getElem] at hq
                obtain ⟨hlt2, h1, _⟩ := hq
                apply f2
                rw [hNbl]
                exact List.mem_flatten.2 ⟨bl[q], List.getElem_mem _, by simpa using h1⟩) hbsd ⟨hN1, fun b hb => (hN2 b hb).2⟩
        have hg3 := hg2.grow hgrow hfr2 (fun i b hi => hκ i b hi) hio (fs := fs) (fun p hp => by obtain ⟨j, _, e⟩ := hids p hp; rw [e]; exact hcls j) (fun id es sz u hid hfile => by
          by_cases hin : ∃ p ∈ fs, p.1 = id
          · obtain ⟨p, hp, rfl⟩ := hin
            have := putFs_in (σ := σ2) hnod p hp
            rw [hfile] at this
            exact hnio _ hp _ _ _ (Option.some.inj this).symm
          · rw [putFs_other (fun p hp e => hin ⟨p, hp, e⟩)] at hfile
            rw [(hfr2 id hid).none] at hfile; cases hfile) (fun id g hid hfile => by
          by_cases hin : ∃ p ∈ fs, p.1 = id
          · obtain ⟨p, hp, rfl⟩ := hin
            have := putFs_in (σ := σ2) hnod p hp
            rw [hfile] at this; cases this
            exact hfiles p hp
          · rw [putFs_other (fun p hp e => hin ⟨p, hp, e⟩)] at hfile
            rw [(hfr2 id hid).none] at hfile; cases hfile)
        rw [hdst]
        rcases hcase with ⟨rfl, rfl, hne⟩ | ⟨p, oo, ll, rfl, rfl, hpin, u, es1, hu, hps1, hol, hview⟩
        · have hKK2 : K (put (putFs σ2 fs) d s) := by
            cases r0 with
            | vw p oo ll => exact absurd rfl (hne p oo ll)
            | pv r => rw [isVw_none (by intro p o l h; cases h)] at hKK; simp only [hsf] at hKK; exact hKK
            | row es sz u => rw [isVw_none (by intro p o l h; cases h)] at hKK; simp only [hsf] at hKK; exact hKK
            | ag ls => rw [isVw_none (by intro p o l h; cases h)] at hKK; simp only [hsf] at hKK; exact hKK
            | tup ls => rw [isVw_none (by intro p o l h; cases h)] at hKK; simp only [hsf] at hKK; exact hKK
          exact ⟨M2, _, hg3.put (by rw [putFs_slots.2, hn2, hn1]; exact hdn) hs, hKK2⟩
        · have hfs : fs = [] := by
            have : adopt d bs (.tup []) = (.tup [], []) := rfl
            rw [this] at hsf; cases hsf; rfl
          subst hfs
          have hvw : isVw (inout f) (.vw p oo ll) = some (p, oo, ll) := by
            cases hq : inout f with
            | nil => rw [hq] at hpin; simp at hpin
            | cons x xs => rfl
          rw [hvw] at hKK
          simp only at hKK
          split at hKK
          · rename_i id harg
            rcases hone with e | ⟨p', s', ids, e, hs', hl, hnd, _, _⟩
            · rw [e] at hpin; simp at hpin
            · rw [e] at hpin; simp only [List.mem_singleton] at hpin
              subst hpin
              rw [harg] at hs'; cases hs'
              have hfile : ∃ es sz u io, notSh u = true ∧ σ1.files id = some (.row es sz u io) ∧ sz = ioSz f := by
                simp only [lendP] at hl
                split at hl
                · rename_i id' hl'
                  have := lend1_own hl'
                  subst this
                  unfold lend1 at hl'
                  simp only at hl'
                  split at hl'
                  · rename_i es sz' u io hf
                    split at hl'
                    · rename_i hsz
                      refine ⟨es, sz', u, io, ?_, hf, by simpa using hsz⟩
                      split at hl' <;> first | rfl | cases hl'
                    · cases hl'
                  · cases hl'
                · cases hl
              obtain ⟨es, sz0, u0, io, hu0, hfile, rfl⟩ := hfile
              have hpl : p < ps.length := (List.getElem?_eq_some_iff.1 hps1).1
              have hdr : Hdr M1 w id es.length (ioSz f) 0 es.length u := by
                have := hargs.get harg hu
                exact this _ _ _ _ hfile
              have hes1 : es1 = es := by
                obtain ⟨t1, _, _⟩ := hFs p _ _ _ _ harg hps1 hu (List.getElem?_eq_getElem (by omega))
                simp only [toPV, pv2, pv1, content, hfile, Option.some.injEq, PV.sl.injEq] at t1
                exact t1.symm
              subst hes1
              obtain ⟨es2, hf2, hlen2⟩ := hkeep _ _ _ _ _ hu0 hfile
              have hidd : cls id ≠ d := fun e => (by have := (hfr id e).none; rw [hfile] at this; cases this)
              have hcl : ClS E M2 (putFs σ2 []) w' (.own id (some (oo, ll))) v := by
                intro es3 sz3 u3 io3 hf3
                have hf3 : σ2.files id = some (.row es3 sz3 u3 io3) := hf3
                rw [hf2] at hf3; cases hf3
                rw [hlen2]
                obtain ⟨a1, cap1, rfl, q1, q2, q3⟩ := hview
                refine ⟨a1, cap1, rfl, q1, hol, q2, fun hc1 => ?_⟩
                obtain ⟨b, q, m, cap0, c, e0, rfl, hc0, rfl, hw, hsz⟩ := q3 hc1
                obtain ⟨a2, cap2, e2, _, _, _, h4⟩ := hdr
                cases e2
                obtain ⟨e3, hκ3, _, _, _, _⟩ := h4 hc0
                cases e3
                have hb := (hg1.own _ _ hκ3)
                have eb : M2.blk id = M1.blk id := by show (if cls id = d then _ else _) = _; rw [if_neg hidd]
                have eo : M2.off id = M1.off id := by show (if cls id = d then _ else _) = _; rw [if_neg hidd]
                have ek : M2.κ (M1.blk id) = some id := by show (if M1.blk id < w.heap.size then _ else _) = _; rw [if_pos hb]; exact hκ3
                rw [eb, eo]
                rw [Nat.zero_mul, Nat.add_zero] at hsz
                refine ⟨by rw [Nat.zero_mul, Nat.add_zero], ek, c, e0, hw, ?_⟩
                simpa using hsz
              exact ⟨M2, _, hg3.put (by rw [putFs_slots.2, hn2, hn1]; exact hdn) hcl, hKK⟩
          · exact hKK.elim
      · exact hK.elim
    · exact hK.elim
  · exact hK.elim

end ops
end Go.VAI

namespace Go.VAI
variable {E : Env} {P : Program}

section pass
variable {M : Mp} {σ : St} {a : Act} {w : World} {o : Oper} {K : St → Prop} {Q : Exit → Act → World → Prop}

/-- The world grows, and nothing that was changes. -/
theorem G.still (hg : G E M σ a w) {w' : World} (h1 : ∀ b, b < w.heap.size → w'.heap[b]? = w.heap[b]?) (h2 : w.heap.size ≤ w'.heap.size) (h3 : w'.os = w.os) (h4 : TapeLe w w') (h5 : w'.output = w.output) : G E M σ a w' := by
  have hcl : ∀ id, cls id ≠ 4096 := fun id h => by unfold cls at h; have := Nat.mod_lt id (show 0 < 4096 by decide); omega
  exact hg.grow (d := 4096) (M' := M) (fs := []) ⟨h1, h2, fun _ _ => rfl, fun b j hb hj => absurd (hg.own b j hj) (by omega), fun _ _ => ⟨rfl, rfl⟩, h3, h4, h5⟩ (fun id h => absurd h (hcl id)) (fun id _ h => absurd h (hcl id)) (fun id _ _ => hcl id) (by simp) (fun id _ _ _ h => absurd h (hcl id)) (fun id _ h => absurd h (hcl id))

theorem rep_raw {x : PV} {v : Value} {F : List Nat} (h : Rep w x v F) (hx : (∃ u, x = .val u) ∨ ∃ es, x = .sl es) : RawOf x (.val v) ∧ v.oneCell' = true := by
  rcases hx with ⟨u, rfl⟩ | ⟨es, rfl⟩
  · cases h with
    | val _ h1 => exact ⟨rfl, h1⟩
  · cases h with
    | nil a0 cap => exact ⟨⟨a0, cap, rfl⟩, rfl⟩
    | sl h1 h2 h3 => exact ⟨⟨_, _, rfl⟩, rfl⟩

theorem pass_raw (hg : G E M σ a w) : ∀ {ls : List Slot} {xs : List PV} {cs : List Value}, ls.all passL = true → optAll (pv1 (stdA P) σ) ls = some xs → All2 (Cl1 E M σ w) ls cs → All2 RawOf xs (cs.map PV.val) ∧ ∀ v ∈ cs, v.oneCell' = true
  | [], _, _, _, h2, .nil => by cases h2; exact ⟨.nil, by simp⟩
  | s :: ls, xs, _, h1, h2, .cons (y := v) (ys := vs) hc t => by
    simp only [List.all_cons, Bool.and_eq_true] at h1
    simp only [optAll] at h2
    split at h2
    · rename_i x hx
      split at h2
      · rename_i ys hys
        cases h2
        obtain ⟨b1, b2⟩ := pass_raw hg h1.2 hys t
        obtain ⟨F, hr, _⟩ := pv1_rep (P := P) hg hx hc
        have hk : (∃ u, x = .val u) ∨ ∃ es, x = .sl es := by
          have h0 := h1.1
          unfold passL at h0
          split at h0
          · simp only [pv1, Option.some.injEq] at hx; exact .inl ⟨_, hx.symm⟩
          · simp only [pv1, Option.some.injEq] at hx; exact .inr ⟨_, hx.symm⟩
          · simp only [pv1] at hx
            split at hx
            · cases hx; exact .inr ⟨_, rfl⟩
            · cases hx
          · cases h0
        obtain ⟨a1, a2⟩ := rep_raw hr hk
        refine ⟨.cons a1 b1, fun u hu => ?_⟩
        rcases List.mem_cons.1 hu with rfl | hu
        · exact a2
        · exact b2 u hu
      · cases h2
    · cases h2

theorem args_raw {f : FuncId} (hio : inout f = []) {cs : List Value} (h1 : ∀ v ∈ cs, v.oneCell' = true) : ArgsOk P f w [.agg (cs.map PV.val)] [.agg ⟨cs⟩] [[]] := by
  have hr : rootsOf f [.agg (cs.map PV.val)] [.agg ⟨cs⟩] [[]] = [] := by simp [rootsOf, hio]
  refine ⟨rfl, rfl, fun k r v F hr1 hv hF _ => ?_, fun k r v _ _ hk => by rw [hio] at hk; simp at hk, fun R hR => by rw [hr] at hR; simp at hR, by rw [hr]; simp, fun k hk => by rw [hio] at hk; simp at hk, .inl hio⟩
  cases k with
  | zero =>
    simp only [List.getElem?_cons_zero, Option.some.injEq] at hr1 hv hF
    subst hr1 hv hF
    exact ⟨.agg (RepL.vals h1), by simp, fun R hR => by rw [hr] at hR; simp at hR⟩
  | succ k => simp at hr1

theorem rall_vals {ok : Nat → Prop} : ∀ {zs : List PV} {cs : List Value} {N : List Nat}, zs.all isVal = true → RAll (RCl1 w ok) (zs.map RS.pv) cs N → zs = cs.map PV.val ∧ ∀ v ∈ cs, v.oneCell' = true
  | [], _, _, _, .nil => ⟨rfl, by simp⟩
  | z :: zs, _, _, hz, .cons (v := v) h t => by
    simp only [List.all_cons, Bool.and_eq_true] at hz
    obtain ⟨b1, b2⟩ := rall_vals hz.2 t
    obtain ⟨_, F, hr, _⟩ := h
    cases z with
    | val u =>
      cases hr with
      | val _ h1 =>
        exact ⟨by rw [b1]; rfl, fun u hu => by
          rcases List.mem_cons.1 hu with rfl | hu
          · exact h1
          · exact b2 u hu⟩
    | _ => simp [isVal] at hz

theorem val_inj {xs ys : List Value} (h : xs.map PV.val = ys.map PV.val) : xs = ys :=
  (List.map_inj_right (fun _ _ h => by injection h)).1 h

theorem op_pass (hg : G E M σ a w) {d : Nat} (hdst : o.dst = some d) (hdn : d < σ.n) {c : Call} (hop : o.op = .call c) {f : FuncId} (hc : c.callee = .value (.func f)) {x : Operand} (hx : c.args.toList = [x])
    (h : passS (stdA P) f d (eval σ x) σ K) : o.wp P a w (Nx E K) Q := by
  unfold passS at h
  split at h
  · rename_i ls hs
    split at h
    · rename_i hall
      split at h
      · rename_i xs hxs
        obtain ⟨b, zs, hK, hcal, hio, hzs, hdoes⟩ := h
        have hcl := eval_cl hg x
        rw [hs] at hcl
        obtain ⟨cs, hv, hcs⟩ := hcl
        obtain ⟨hraw, hone⟩ := pass_raw hg hall hxs hcs
        have hcall := hdoes _ hraw w _ _ (args_raw hio hone)
        have hrun := enter_run (P := P) (w := w) (a := a) (cs := []) hop hc rfl hcal
        rw [hx] at hrun
        simp only [List.map_cons, List.map_nil, List.append_nil, hv] at hrun
        unfold Oper.wp
        rw [hrun, Oper.upon_enter]
        refine Calls.mono hcall (fun e w' hh => ?_)
        obtain ⟨v, rfl, hp⟩ := hh
        show Nx E K (a.put o.dst v) w'
        have hr : rootsOf f [.agg (cs.map PV.val)] [.agg ⟨cs⟩] [[]] = [] := by simp [rootsOf, hio]
        have hg' := hg.still (fun k hk => hp.frame k hk (fun R hR => by rw [hr] at hR; simp at hR)) hp.size hp.os hp.tape hp.out
        have hcl' := eval_cl hg' x
        rw [hs] at hcl'
        obtain ⟨cs2, hv2, hcs2⟩ := hcl'
        rw [hv] at hv2
        cases hv2
        obtain ⟨N, _, _, hres⟩ := hp.res
        obtain ⟨vs, rfl, hall2⟩ := hres
        cases hall2 with
        | cons h1 t =>
          cases t with
          | cons h2 t2 =>
            cases t2
            obtain ⟨cs3, rfl, h3⟩ := h1
            obtain ⟨_, F4, h4, _⟩ := h2
            cases h4
            cases b with
            | true =>
              obtain ⟨e1, _⟩ := rall_vals (zs := cs.map PV.val) (by simp [isVal]) h3
              have e1 := val_inj e1
              subst e1
              rw [hdst]
              exact ⟨M, _, hg'.put hdn (s := .tup [.ag ls, .pv (.val (.bool true)) []]) (show ClS E M σ w' _ _ from ⟨_, rfl, .cons ⟨_, rfl, hcs2⟩ (.cons ⟨[], .val _ rfl, by simp [Good]⟩ .nil)⟩), hK⟩
            | false =>
              obtain ⟨e1, e2⟩ := rall_vals (zs := zs) hzs h3
              rw [hdst]
              refine ⟨M, _, hg'.put hdn (s := .tup [.ag (zs.map (Slot.pv · [])), .pv (.val (.bool false)) []]) (show ClS E M σ w' _ _ from ⟨_, rfl, .cons ⟨_, rfl, ?_⟩ (.cons ⟨[], .val _ rfl, by simp [Good]⟩ .nil)⟩), hK⟩
              rw [e1]
              have : All2 (fun s v => Cl1 E M σ w' s v ∧ v.oneCell' = true ∧ noTup s = true) ((cs3.map PV.val).map (Slot.pv · [])) cs3 := All2.vals e2
              have := this.imp (g := fun s => s) (q := Cl1 E M σ w') (fun s v hh => hh.1)
              rwa [List.map_id'] at this
      · exact h.elim
    · exact h.elim
  · exact h.elim

/-! ### A row turned round -/

theorem CellsO.rev {L L' : PV → Value → List Nat → Prop} {w w' : World} {b b' sz : Nat} : ∀ {es : List PV} {o o' : Nat} {N : List Nat}, (∀ x ∈ es, (leaves x).length = sz) → CellsO L w b o (es.flatMap leaves) N →
    (∀ i j, i < es.length → j < sz → w'.cell? ⟨b', o' + i * sz + j, none⟩ = w.cell? ⟨b, o + (es.length - 1 - i) * sz + j, none⟩) → (∀ y v n, L y v n → (∀ c ∈ n, c ∈ N) → L' y v n) → ∃ N', CellsO L' w' b' o' (es.reverse.flatMap leaves) N' ∧ N'.Perm N
  | [], o, o', N, _, h, _, _ => by
    have h : N = [] := h
    subst h
    exact ⟨[], rfl, .nil⟩
  | x :: t, o, o', N, hw, h, hc, hL => by
    have hx := hw x (by simp)
    have ht : ∀ y ∈ t, (leaves y).length = sz := fun y hy => hw y (by simp [hy])
    rw [List.flatMap_cons] at h
    obtain ⟨n1, n2, rfl, h1, h2⟩ := CellsO.split h
    rw [hx] at h2
    obtain ⟨N2, h3, h4⟩ := CellsO.rev (w' := w') (b' := b') (o' := o') ht h2 (fun i j hi hj => by
      have := hc i j (by simp; omega) hj
      rw [this, List.length_cons]
      congr 2
      rw [show t.length + 1 - 1 - i = (t.length - 1 - i) + 1 by omega, Nat.add_mul]; omega) (fun y v n hl hn => hL y v n hl (fun c hc => by simp [hn c hc]))
    refine ⟨N2 ++ n1, ?_, ?_⟩
    · rw [List.reverse_cons, List.flatMap_append]
      refine CellsO.app h3 ?_
      rw [flat_len (sz := sz) (fun y hy => ht y (by simpa using hy)), List.length_reverse]
      have : [x].flatMap leaves = leaves x := by simp
      rw [this]
      refine CellsO.copy h1 (fun j hj => ?_) (fun y v n hl hn => hL y v n hl (fun c hc => by simp [hn c hc]))
      have := hc t.length j (by simp) (by omega)
      rw [this, List.length_cons, show t.length + 1 - 1 - t.length = 0 by omega, Nat.zero_mul, Nat.add_zero]
    · exact (List.perm_append_comm).trans (h4.append_left n1)

/-- A row as it lies in memory. -/
def rawRow (w : World) (b o sz n : Nat) : List PV := (List.range n).map fun i => .agg ((List.range sz).map fun j => .val ((w.cell? ⟨b, o + i * sz + j, none⟩).getD undef))
theorem rawRow_len {w : World} {b o sz n : Nat} : (rawRow w b o sz n).length = n := by simp [rawRow]
theorem rawRow_get {w : World} {b o sz n i : Nat} (h : i < n) : (rawRow w b o sz n)[i]? = some (.agg ((List.range sz).map fun j => .val ((w.cell? ⟨b, o + i * sz + j, none⟩).getD undef))) := by simp [rawRow, h]
theorem rawRow_el {w : World} {b o sz n : Nat} : ∀ x ∈ rawRow w b o sz n, rawEl sz x := by
  intro x hx
  obtain ⟨i, _, rfl⟩ := List.mem_map.1 hx
  exact ⟨_, rfl, by simp, by simp [isVal]⟩

theorem op_rev (hg : G E M σ a w) {d : Nat} (hdst : o.dst = some d) (hdn : d < σ.n) {c : Call} (hop : o.op = .call c) {f : FuncId} (hc : c.callee = .value (.func f)) {x : Operand} (hx : c.args.toList = [x])
    (h : revS (stdA P) f d (eval σ x) σ K) : o.wp P a w (Nx E K) Q := by
  unfold revS at h
  split at h
  · rename_i id hs
    split at h
    · rename_i es sz u io hf
      split at h
      · rename_i hsz
        obtain ⟨⟨hcal, hio, hdp, hmax, hdoes⟩, hK⟩ := h
        have hcl := eval_cl hg x
        rw [hs] at hcl
        have hh : Hdr M w id es.length sz 0 es.length (a.eval x) := hcl _ _ _ _ hf
        obtain ⟨k0, k1, k2, F, k3, k4⟩ := hg.files _ _ hf
        generalize hv : a.eval x = v at hh
        obtain ⟨a0, cap, rfl, q1, q2, q3, q4⟩ := hh
        -- the cells
        have hcell : ∀ i y, es[i]? = some y → ∀ j z, (leaves y)[j]? = some z → ∃ v G, w.cell? ⟨M.blk id, M.off id + i * sz + j, none⟩ = some v ∧ v.oneCell' = true ∧ Rep w z v G ∧ ∀ c ∈ G, c ∈ F := by
          intro i y hy j z hz
          obtain ⟨_, G1, g1, g2⟩ := k3.get hy
          obtain ⟨v, G2, g3, g4, g5, g6⟩ := g1.get hz
          exact ⟨v, G2, g3, g4, g5, fun c hc => g2 c (g6 c hc)⟩
        have hwid : ∀ x ∈ es, (leaves x).length = sz := by
          intro y hy
          obtain ⟨i, hi, rfl⟩ := List.getElem_of_mem hy
          exact (k3.get (List.getElem?_eq_getElem hi)).1
        have hone : ∀ i j, i < es.length → j < sz → ∃ v, w.cell? ⟨M.blk id, M.off id + i * sz + j, none⟩ = some v ∧ v.oneCell' = true := by
          intro i j hi hj
          have hl := hwid _ (List.getElem_mem hi)
          obtain ⟨v, _, h1, h2, _⟩ := hcell i _ (List.getElem?_eq_getElem hi) j _ (List.getElem?_eq_getElem (by omega))
          exact ⟨v, h1, h2⟩
        generalize hL : rawRow w (M.blk id) (M.off id) sz es.length = L
        have hLl : L.length = es.length := by rw [← hL]; exact rawRow_len
        have hLe : ∀ x ∈ L, rawEl (ioSz f) x := by rw [← hL, ← hsz]; exact rawRow_el
        have hLr : ∃ G, RepRow w (M.blk id) sz (M.off id) L G ∧ ∀ c ∈ G, noOk c := by
          refine RepRow.of_get L _ (fun i x hx => ?_)
          have hi : i < es.length := by rw [← hLl]; exact (List.getElem?_eq_some_iff.1 hx).1
          rw [← hL, rawRow_get hi] at hx
          cases hx
          refine ⟨by simp [leaves], RepCells.of_get _ _ (fun j z hz => ?_)⟩
          simp only [leaves] at hz
          have hj : j < sz := by have := (List.getElem?_eq_some_iff.1 hz).1; simpa using this
          rw [List.getElem?_map, List.getElem?_range hj] at hz
          cases hz
          obtain ⟨v, h1, h2⟩ := hone i j hi hj
          show ∃ v G, _ ∧ _ ∧ Rep w (PV.val ((w.cell? ⟨M.blk id, M.off id + i * sz + j, none⟩).getD undef)) v G ∧ _
          rw [h1]
          exact ⟨v, [], rfl, h2, .val v h2, by simp⟩
        -- what is lent
        obtain ⟨N, hN⟩ : ∃ N, N = if cap = 0 then [] else [M.blk id] := ⟨_, rfl⟩
        have hN0 : cap = 0 → N = [] := fun h => by rw [hN, if_pos h]
        have hN1 : cap ≠ 0 → N = [M.blk id] := fun h => by rw [hN, if_neg h]
        have hNκ : ∀ b ∈ N, M.κ b = some id := by
          intro b hb
          by_cases h0 : cap = 0
          · rw [hN0 h0] at hb; simp at hb
          · rw [hN1 h0] at hb; simp only [List.mem_singleton] at hb; subst hb; exact (q4 h0).2.1
        have hroots : rootsOf f [.sl L] [.slice a0 es.length cap] [N] = [⟨0, L, sz, [], .slice a0 es.length cap, N⟩] := by
          simp only [rootsOf, hio, List.getElem?_cons_zero, rootsP, hdp, hsz]
        have hlent : Lent1 w ⟨0, L, sz, [], .slice a0 es.length cap, N⟩ := by
          refine ⟨a0, cap, by rw [hLl], by simp only [hLl]; exact q1, hN0, fun h0 => ?_⟩
          obtain ⟨e1, e2, c0, e0, e3, e4⟩ := q4 h0
          rw [Nat.zero_mul, Nat.add_zero] at e1
          rw [Nat.zero_add] at e4
          exact ⟨M.blk id, M.off id, c0, e0, [], e1, e3, e4, hN1 h0, rfl, hLr⟩
        have hok : ArgsOk P f w [.sl L] [.slice a0 es.length cap] [N] := by
          refine ⟨rfl, rfl, fun k r v F _ _ hF hk => ?_, fun k r v hr hv hk => ?_, fun R hR => ?_, ?_, fun k hk => ?_, .inr ⟨0, hio⟩⟩
          · cases k with
            | zero => rw [hio] at hk; simp at hk
            | succ k => simp at hF
          · cases k with
            | zero => simp only [List.getElem?_cons_zero, Option.some.injEq] at hr; exact .inl ⟨L, hr.symm⟩
            | succ k => simp at hr
          · rw [hroots] at hR
            simp only [List.mem_singleton] at hR
            subst hR
            exact ⟨hlent, fun b hb => hg.own _ _ (hNκ b hb)⟩
          · rw [hroots]
            simp only [List.flatMap_cons, List.flatMap_nil, List.append_nil]
            rw [hN]; split <;> simp
          · rw [hio] at hk; simp only [List.mem_singleton] at hk; subst hk
            exact ⟨by simp, hmax, by omega⟩
        have hcall := hdoes L hLl hLe w _ _ hok
        have hrun := enter_run (P := P) (w := w) (a := a) (cs := []) hop hc rfl hcal
        rw [hx] at hrun
        simp only [List.map_cons, List.map_nil, List.append_nil, hv] at hrun
        unfold Oper.wp
        rw [hrun, Oper.upon_enter]
        refine Calls.mono hcall (fun e w' hh => ?_)
        obtain ⟨v, rfl, hp⟩ := hh
        show Nx E K (a.put o.dst v) w'
        obtain ⟨ess, hb, houts⟩ := hp.outs
        rw [hroots] at hb
        cases hb with
        | cons hb t =>
        cases t
        rename_i es2
        have he2 : es2 = L.reverse := by
          simp only [outsOf, hio, List.getElem?_cons_zero, List.map_cons, List.map_nil] at houts
          cases houts; rfl
        subst he2
        obtain ⟨_, hbk⟩ := hb
        simp only at hbk
        have hsame : ∀ b, b < w.heap.size → b ∉ N → w'.heap[b]? = w.heap[b]? := fun b hb hn => hp.frame b hb (fun R hR => by rw [hroots] at hR; simp only [List.mem_singleton] at hR; subst hR; exact hn)
        have hFout : ∀ c ∈ F, c ∉ N ∧ c < w.heap.size := by
          intro c hcF
          cases u with
          | free => simp [GoodU] at k4; subst k4; simp at hcF
          | sh bs =>
            obtain ⟨h1, h2⟩ := k4 c hcF
            refine ⟨fun hm => ?_, h1⟩
            have := hNκ c hm
            rcases h2 with ⟨h2, _⟩ | ⟨j, hj, h2⟩
            · rw [this] at h2; cases h2
            · rw [this] at h2; cases h2; exact k1 hj
          | deep z zs =>
            obtain ⟨h1, h2, h3⟩ := k4.2 c hcF
            refine ⟨fun hm => ?_, h2⟩
            rw [hN] at hm
            split at hm
            · simp at hm
            · simp only [List.mem_singleton] at hm; exact h3 hm
        have hmixF : ∀ c ∈ F, (mixW w w' N).heap[c]? = w.heap[c]? := fun c hcF => mixW_out (hFout c hcF).1
        -- the cells behind the call
        have hrevc : cap ≠ 0 → ∀ i j, i < es.length → j < sz → (mixW w w' N).cell? ⟨M.blk id, M.off id + i * sz + j, none⟩ = w.cell? ⟨M.blk id, M.off id + (es.length - 1 - i) * sz + j, none⟩ := by
          intro h0 i j hi hj
          obtain ⟨e1, e2, c0, e0, e3, e4⟩ := q4 h0
          rw [Nat.zero_mul, Nat.add_zero] at e1
          subst e1
          obtain ⟨⟨N', ⟨_, G, g1, _⟩, _, _⟩, _⟩ := hbk _ _ _ _ rfl h0
          have hi2 : L.reverse[i]? = L[es.length - 1 - i]? := by rw [List.getElem?_reverse (by omega), hLl]
          have hx2 : L.reverse[i]? = some (.agg ((List.range sz).map fun j => .val ((w.cell? ⟨M.blk id, M.off id + (es.length - 1 - i) * sz + j, none⟩).getD undef))) := by
            rw [hi2, ← hL]; exact rawRow_get (by omega)
          obtain ⟨_, G1, g2, _⟩ := g1.get hx2
          obtain ⟨v1, G2, g3, _, g5, _⟩ := g2.get (j := j) (x := .val ((w.cell? ⟨M.blk id, M.off id + (es.length - 1 - i) * sz + j, none⟩).getD undef)) (by simp only [leaves]; rw [List.getElem?_map, List.getElem?_range hj]; rfl)
          have hv1 := rep_val g5
          obtain ⟨v2, h2, _⟩ := hone (es.length - 1 - i) j (by omega) hj
          rw [h2] at hv1 ⊢
          rw [cell?_same (mixW_in (by rw [hN1 h0]; simp) hp.size (hg.own _ _ e2)), g3, hv1]; rfl
        have key : (∃ F, RepRow (mixW w w' N) (M.blk id) sz (M.off id) es.reverse F ∧ GoodU E M (mixW w w' N) id sz es.reverse u F) ∧
            (∀ c e, w.heap[M.blk id]? = some (.cells c e (0, 0)) → ∃ c', (mixW w w' N).heap[M.blk id]? = some (.cells c' e (0, 0)) ∧ c'.size = c.size ∧ ∀ j, (j < M.off id ∨ M.off id + es.length * sz ≤ j) → c'[j]? = c[j]?) := by
          by_cases h0 : cap = 0
          · have he : es = [] := by apply List.eq_nil_of_length_eq_zero; omega
            subst he
            rw [hN0 h0]
            have hs' : ∀ b, (mixW w w' []).heap[b]? = w.heap[b]? := fun b => mixW_out (by simp)
            rw [mixW_nil]
            exact ⟨⟨F, k3, k4⟩, fun c e hce => ⟨c, hce, rfl, fun _ _ => rfl⟩⟩
          · have hrc := hrevc h0
            obtain ⟨e1, e2, c0, e0, e3, e4⟩ := q4 h0
            rw [Nat.zero_mul, Nat.add_zero] at e1
            subst e1
            obtain ⟨_, c, c', e, b2, b3, b4, b5⟩ := hbk _ _ _ _ rfl h0
            refine ⟨?_, fun c2 e2' hce => ?_⟩
            · obtain ⟨F', f1, f2⟩ := RepRow.of_get (w := mixW w w' N) (b := M.blk id) (sz := sz) (FF := fun c => c ∈ F) es.reverse (M.off id) (fun i x hx => by
                have hi : i < es.length := by have := (List.getElem?_eq_some_iff.1 hx).1; simpa using this
                rw [List.getElem?_reverse hi] at hx
                refine ⟨hwid x (List.mem_of_getElem? hx), RepCells.of_get _ _ (fun j z hz => ?_)⟩
                have hj : j < sz := by rw [← hwid x (List.mem_of_getElem? hx)]; exact (List.getElem?_eq_some_iff.1 hz).1
                obtain ⟨v, G, g1, g2, g3, g4⟩ := hcell _ x hx j z hz
                exact ⟨v, G, by rw [hrc i j hi hj]; exact g1, g2, g3.mono (fun c hc => hmixF c (g4 c hc)), g4⟩)
              refine ⟨F', f1, ?_⟩
              cases u with
              | free =>
                simp only [GoodU] at k4 ⊢
                subst k4
                exact List.eq_nil_iff_forall_not_mem.2 (fun c hc => by simpa using f2 c hc)
              | sh bs =>
                intro c hc
                obtain ⟨h1, h2⟩ := k4 c (f2 c hc)
                exact ⟨by rw [mixW_size]; exact h1, h2⟩
              | deep z zs =>
                obtain ⟨⟨N1, ⟨_, d2⟩, d3, d4⟩, d5⟩ := k4
                have hN1m : ∀ c ∈ N1, (mixW w w' N).heap[c]? = w.heap[c]? := fun c hc => mixW_out (fun hm => by
                  rw [hN1 h0] at hm; simp only [List.mem_singleton] at hm; exact (d4 c hc).2.2 hm)
                obtain ⟨N2, r1, r2⟩ := CellsO.rev (L' := LeafO (fun c p ys N' => RowO noOk (mixW w w' N) zs c z p ys N') (mixW w w' N) z) (w' := mixW w w' N) (b' := M.blk id) (o' := M.off id) hwid d2 hrc (fun y v n hl hn => by
                  have hone1 : CellsO (LeafO (fun c p ys N => RowO noOk w zs c z p ys N) w z) { w with heap := #[.cells #[v] 0 (0, 0)] } 0 0 [y] n → True := fun _ => trivial
                  clear hone1
                  cases y with
                  | val u0 => exact hl
                  | sl ys =>
                    rcases hl with hl | ⟨c, p, cap1, cc, e, N', l1, l2, l3, l4, l5, l6, l7⟩
                    · exact .inl hl
                    · refine .inr ⟨c, p, cap1, cc, e, N', l1, l2, l3, ?_, l5, l6, ?_⟩
                      · rw [hN1m c (hn c (by rw [l6]; simp))]; exact l4
                      · exact l7.mono (fun _ h => h.elim) (fun j _ _ => cell?_same (hN1m c (hn c (by rw [l6]; simp))) j) (fun c2 hc2 => hN1m c2 (hn c2 (by rw [l6]; simp [hc2])))
                  | _ => exact hl.elim)
                exact ⟨⟨N2, ⟨fun y hy => hwid y (by simpa using hy), r1⟩, r2.nodup_iff.2 d3, fun c hc => by
                  obtain ⟨x1, x2, x3⟩ := d4 c (r2.mem_iff.1 hc)
                  exact ⟨x1, by rw [mixW_size]; exact x2, x3⟩⟩, fun c hc => by
                  obtain ⟨x1, x2, x3⟩ := d5 c (f2 c hc)
                  exact ⟨x1, by rw [mixW_size]; exact x2, x3⟩⟩
            · rw [e3] at hce b2
              cases hce; cases b2
              refine ⟨c', by rw [mixW_in (by rw [hN1 h0]; simp) hp.size (hg.own _ _ e2)]; exact b3, b4, fun j hj => b5 j (by rw [hLl]; exact hj)⟩
        obtain ⟨x2, x3⟩ := key
        obtain ⟨y1, _⟩ := step_core (w' := w') hg hf hNκ (by simp) x2 x3
        have hg' := y1.still (w' := w') (fun b hb => by
          rw [mixW_size] at hb
          by_cases hm : b ∈ N
          · exact (mixW_in hm hp.size hb).symm
          · rw [mixW_out hm]; exact hsame b hb hm) (by rw [mixW_size]; exact hp.size) hp.os hp.tape hp.out
        rw [hdst]
        exact ⟨M, _, hg'.put hdn (s := .dead) trivial, hK⟩
      · exact h.elim
    · exact h.elim
  · exact h.elim

end pass
end Go.VAI

namespace Go.VAI
variable {E : Env} {P : Program}

section ops
variable {M : Mp} {σ : St} {a : Act} {w : World} {o : Oper} {K : St → Prop} {Q : Exit → Act → World → Prop}

theorem array1 {α : Type} {a : Array α} {x : α} (h : a.toList = [x]) : a = #[x] := by cases a; simp at h; rw [h]

theorem leaves_zero {i : TI} {z : PV} {cs : List Value} (hz : ofLeaves i.ag i.zero = some z) (hzero : i.zero = cs.map PV.val) : leaves z = i.zero := by
  unfold ofLeaves at hz
  split at hz
  · cases hz; rfl
  · split at hz
    · rename_i x hx
      cases hz
      rw [hx]
      rw [hzero] at hx
      cases cs with
      | nil => simp at hx
      | cons v cs => simp at hx; rw [← hx.1]; rfl
    · cases hz

theorem zeros_get {z : Array Value} {n k : Nat} (h : k < n * z.size) : (Builtin.zeroCells z n).toList[k]? = z[k % z.size]? := by
  have hz : 0 < z.size := by
    rcases Nat.eq_zero_or_pos z.size with h0 | h0
    · rw [h0] at h; simp at h
    · exact h0
  have hm := Nat.mod_lt k hz
  simp [Builtin.zeroCells, h, hm]

theorem zeros_row {w : World} {b p l : Nat} {i : TI} {z : PV} {cs : List Value} {zv : Value} (hz : ofLeaves i.ag i.zero = some z) (hzero : i.zero = cs.map PV.val) (hcl : cs.length = i.size) (hone : ∀ v ∈ cs, v.oneCell' = true) (hcells : zv.cells = ⟨cs⟩)
    (h : ∀ j v, (Builtin.zeroCells zv.cells l).toList[j]? = some v → w.cell? ⟨b, p + j, none⟩ = some v) : RepRow w b i.size p (List.replicate l z) [] := by
  have hlz := leaves_zero hz hzero
  have hzs : zv.cells.size = i.size := by rw [hcells]; exact hcl
  obtain ⟨F, h1, h2⟩ := RepRow.of_get (w := w) (b := b) (sz := i.size) (FF := fun _ => False) (List.replicate l z) p (fun j x hx => by
    obtain ⟨hj, hx⟩ := List.getElem?_eq_some_iff.1 hx
    simp only [List.length_replicate] at hj
    rw [List.getElem_replicate] at hx
    subst hx
    refine ⟨by rw [hlz, hzero]; simpa using hcl, [], ?_, by simp⟩
    rw [hlz, hzero]
    refine (RepL.vals hone).cells _ hone (fun q v hq => ?_)
    have hq' : q < cs.length := (List.getElem?_eq_some_iff.1 hq).1
    have h3 : j * i.size + q < l * i.size := by
      calc j * i.size + q < j * i.size + i.size := by omega
        _ = (j + 1) * i.size := by rw [Nat.add_mul, Nat.one_mul]
        _ ≤ l * i.size := Nat.mul_le_mul_right _ hj
    rw [Nat.add_assoc]
    refine h _ _ ?_
    rw [zeros_get (by rw [hzs]; exact h3), hzs, Nat.mul_comm, Nat.mul_add_mod, Nat.mod_eq_of_lt (by omega), hcells]
    simpa using hq)
  have : F = [] := by
    cases F with
    | nil => rfl
    | cons x F => exact (h2 x (by simp)).elim
  subst this
  exact h1

theorem op_clear (hT : TTok P) (hg : G E M σ a w) (hdst : o.dst = none) {c : Call} (hop : o.op = .call c) (hc : c.callee = .builtin .clear) {x : Operand} (hx : c.args.toList = [x]) {t : Nat} (htt : c.argTypes.toList = [t])
    {e : Nat} {i : TI} (ht : elemOf t = some (e, i)) {id : Nat} {es : List PV} {io : Bool} (hf : σ.files id = some (.row es i.size .free io)) {p l : Nat} (hs : eval σ x = .own id (some (p, l))) {z : PV} (hz : ofLeaves i.ag i.zero = some z)
    (h : K (putF (kill false σ id) id (.row (es.take p ++ List.replicate l z ++ es.drop (p + l)) i.size .free io))) : o.wp P a w (Nx E K) Q := by
  have hh : Hdr M w id es.length i.size p l (a.eval x) := by
    have := eval_cl hg x
    rw [hs] at this
    exact this _ _ _ _ hf
  obtain ⟨a0, cap, hv, h1, h2, h3, h4⟩ := hh
  obtain ⟨k0, k1, k2, F, k3, k4⟩ := hg.files _ _ hf
  simp only [GoodU] at k4
  subst k4
  obtain ⟨hu, inf, zv, cs, hi, hsz, hby, hzv, hzero, hcl, hone, hcells⟩ := elem_types hT ht
  have hzs : zv.cells.size = i.size := by rw [hcells]; exact hcl
  have hlen : (es.take p ++ List.replicate l z ++ es.drop (p + l)).length = es.length := by simp; omega
  have hrun : ∀ w', (Builtin.clear_ #[t] o.type #[a.eval x]).run P w = .ok (.tuple #[]) w' → (execOp a.eval o).run P w = .ok (.value (.tuple #[])) w' := by
    intro w' hr
    simp [execOp, hop, resolve, hc, invoke, builtin, array1 hx, array1 htt, hr]
  by_cases hl0 : l = 0
  · subst hl0
    have hes : es.take p ++ List.replicate 0 z ++ es.drop (p + 0) = es := by simp
    rw [hes] at h
    have ht1 : Turn E id M M w w := ⟨fun _ _ _ => rfl, Nat.le_refl _, fun _ _ _ => rfl, fun b j h h' => by rw [h] at h'; cases h'; exact rfl, fun b j hb h => by have := (hg.own _ _ h); omega, fun _ _ => ⟨rfl, rfl⟩, rfl, TapeLe.rfl', rfl⟩
    have hg2 := hg.turn (hdr := false) ht1 hf (f' := .row es i.size .free io) (fun _ => ⟨fun ls hh => (by cases hh), fun es' sz' u' io' hh => by cases hh; exact ⟨rfl, rfl, es, _, rfl, rfl, fun _ _ _ h => h⟩⟩) (fun h => by cases h)
      ⟨k0, k1, k2, [], k3, rfl⟩ (fun b hk hb => hg.lent b id hb hk) (fun b hk hb => ⟨id, hg.lent b id hb hk⟩) (fun _ _ _ _ e hk => by cases e; exact hg.iob _ _ _ _ _ hf hk) (fun b oo n sz' hq => by
        obtain ⟨⟨es', _, hf', hnu, hn⟩, rest⟩ := hg.io _ _ _ _ _ hq
        rw [hf] at hf'; cases hf'
        exact ⟨⟨es, _, rfl, hnu, hn⟩, rest⟩)
    refine wp_val (v := .tuple #[]) (w' := w) (hrun _ (by rw [hv]; cases a0 <;> simp [Builtin.clear_, run_underlying hu])) ?_
    rw [hdst]
    exact ⟨_, _, hg2, h⟩
  · have hcap : cap ≠ 0 := by clear h4; omega
    obtain ⟨rfl, g1, c0, e0, g2, g3⟩ := h4 hcap
    generalize hnews0 : (Builtin.zeroCells zv.cells l).toList = news
    have hnews : news.length = l * i.size := by rw [← hnews0]; simp [Builtin.zeroCells, hzs]
    have hnone : ∀ v ∈ news, v.oneCell' = true := by
      intro v hv
      obtain ⟨k, hk, e⟩ := List.getElem_of_mem hv
      have hk2 : news[k]? = some v := by rw [List.getElem?_eq_getElem hk, e]
      rw [← hnews0, zeros_get (by rw [hzs]; omega), hcells] at hk2
      exact hone v (List.mem_of_getElem? (by simpa using hk2))
    have hle2 : M.off id + p * i.size + news.length ≤ c0.size := by
      rw [hnews, Nat.add_assoc, ← Nat.add_mul]
      refine Nat.le_trans (Nat.add_le_add_left (Nat.mul_le_mul_right _ ?_) _) g3
      omega
    obtain ⟨c', s1, s2⟩ := setCells_heap (M.blk id) news (M.off id + p * i.size) w c0 e0 (0, 0) g2 hle2
    have hsz' : c'.size = c0.size := by rw [← Array.length_toList, s2, splice_length (by simpa using hle2)]; simp
    have ht1 := turn_set hg g1 g2 (M.off id + p * i.size) news
    have hcell : ∀ k, (w.setCells (M.blk id) (M.off id + p * i.size) news).cell? ⟨M.blk id, k, none⟩ = if k < M.off id + p * i.size then w.cell? ⟨M.blk id, k, none⟩ else if k < M.off id + p * i.size + news.length then news[k - (M.off id + p * i.size)]? else w.cell? ⟨M.blk id, k, none⟩ := by
      intro k
      rw [cell_of s1, cell_of g2, ← Array.getElem?_toList, s2, splice_get (by simpa using hle2)]
      simp
    obtain ⟨F1, f1, f2⟩ := repRow_prefix (n := p) k3 (w' := w.setCells (M.blk id) (M.off id + p * i.size) news) (fun j hj => by rw [hcell j, if_pos (by omega)]) (by simp)
    have f3 : RepRow (w.setCells (M.blk id) (M.off id + p * i.size) news) (M.blk id) i.size (M.off id + p * i.size) (List.replicate l z) [] := zeros_row hz hzero hcl hone hcells (fun j v hj => by
      rw [hnews0] at hj
      have := (List.getElem?_eq_some_iff.1 hj).1
      rw [hcell, if_neg (by omega), if_pos (by omega), show M.off id + p * i.size + j - (M.off id + p * i.size) = j by omega]; exact hj)
    obtain ⟨F2, f4, f5⟩ := f1.app (by
      have : (es.take p).length = p := by simp; omega
      rw [this]; exact f3)
    obtain ⟨F3, f6, f7⟩ := k3.drop (p + l) (by omega)
    have f8 := f6.cells (w' := w.setCells (M.blk id) (M.off id + p * i.size) news) (fun j j1 j2 => by
      have e1 : (p + l) * i.size = p * i.size + news.length := by rw [hnews, Nat.add_mul]
      rw [hcell j, if_neg (by omega), if_neg (by omega)]) (fun c hc => by have := f7 c hc; simp at this)
    obtain ⟨F4, f9, f10⟩ := f4.app (by
      have : (es.take p ++ List.replicate l z).length = p + l := by simp; omega
      rw [this]; exact f8)
    have hF4 : F4 = [] := by
      cases F4 with
      | nil => rfl
      | cons x F4 =>
        exfalso
        rcases f10 x (by simp) with h | h
        · rcases f5 x h with h | h
          · have := f2 x h; simp at this
          · simp at h
        · have := f7 x h; simp at this
    subst hF4
    have hsame : false = false → SameHdr M M w (w.setCells (M.blk id) (M.off id + p * i.size) news) id (.row es i.size .free io) (.row (es.take p ++ List.replicate l z ++ es.drop (p + l)) i.size .free io) := fun _ =>
      ⟨fun ls' hh => (by cases hh), fun es' sz' u' io' hh => by
        cases hh
        refine ⟨rfl, rfl, es, _, rfl, hlen.symm, fun oo l' v hh => ?_⟩
        rw [hlen] at hh ⊢
        obtain ⟨aa, cap', e1, e2, e3, e4, e5⟩ := hh
        refine ⟨aa, cap', e1, e2, e3, e4, fun h0 => ?_⟩
        obtain ⟨q1, q2, c1', e', q3, q4⟩ := e5 h0
        rw [g2] at q3; cases q3
        exact ⟨q1, q2, c', _, s1, by rw [hsz']; exact q4⟩⟩
    have hg2 := hg.turn (hdr := false) ht1 hf hsame (fun h => by cases h)
      ⟨k0, k1, fun _ => ⟨g1, c', e0, s1⟩, [], f9, rfl⟩
      (fun b hk hb => hg.lent b id hb hk) (fun b hk hb => ⟨id, hg.lent b id hb hk⟩) (fun _ _ _ _ e hk => by cases e; exact hg.iob _ _ _ _ _ hf hk) (fun b oo n sz' hqq => by
        obtain ⟨⟨es', _, hf', hnu, hn⟩, i1, i2, i3, c00, ci, ei, i4, i5, i6, i7⟩ := hg.io _ _ _ _ _ hqq
        rw [hf] at hf'
        cases hf'
        refine ⟨⟨_, _, rfl, hnu, by rw [hlen]; exact hn⟩, i1, i2, i3, c00, c', ei, i4, ?_, ?_, fun j hj => ?_⟩
        · rw [← i1, s1]; rw [← i1, g2] at i5; cases i5; rfl
        · rw [← i1, g2] at i5; cases i5; omega
        · rw [← i1, g2] at i5; cases i5
          rw [← i7 j hj]
          have := hcell j
          rw [cell_of s1, cell_of g2] at this
          rw [this]
          have e1 : (p + l) * i.size = p * i.size + news.length := by rw [hnews, Nat.add_mul]
          have e2 : (p + l) * i.size ≤ n * i.size := Nat.mul_le_mul_right _ (by omega)
          rcases hj with hj | hj
          · rw [if_pos (by omega)]
          · rw [if_neg (by omega), if_neg (by omega)])
    have hst := run_storeCells_cells (P := P) (M.blk id) (M.off id + p * i.size) news 0 w (fun j hj => by rw [cell_of g2]; simp; omega) (fun j _ => frozen_of g2) hnone
    obtain ⟨l', rfl⟩ : ∃ l', l = l' + 1 := ⟨l - 1, by omega⟩
    refine wp_val (v := .tuple #[]) (w' := w.setCells (M.blk id) (M.off id + p * i.size) news) (hrun _ (by
      rw [hv]; simp [Builtin.clear_, run_underlying hu, zeroValue, typeInfo, hi, hzv, hnews0, hst])) ?_
    rw [hdst]
    exact ⟨_, _, hg2, h⟩

theorem nilPV_val (hg : G E M σ a w) {x : Operand} (h : isNilPV (eval σ x) = true) : a.eval x = .slice none 0 0 := by
  have hx := eval_cl hg x
  unfold isNilPV at h
  split at h
  · rename_i bs he
    rw [he] at hx
    obtain ⟨F, r1, _⟩ := hx
    generalize a.eval x = v at r1
    cases r1; rfl
  · cases h

theorem op_cap (hT : TTok P) (hg : G E M σ a w) (hd : o.dst.all (fun d => Nat.blt d σ.n) = true) {c : Call} (hop : o.op = .call c) (hc : c.callee = .builtin .cap) {x : Operand} (hx : c.args.toList = [x]) {t : Nat} (htt : c.argTypes.toList = [t])
    {e : Nat × TI} (ht : elemOf t = some e) (hn : isNilPV (eval σ x) = true) (h : K (putO σ o.dst (.pv (.val (.int .i64 0)) []))) : o.wp P a w (Nx E K) Q := by
  obtain ⟨hu, _⟩ := elem_types (e := e.1) (i := e.2) hT ht
  have hv := nilPV_val hg hn
  exact wp_val (v := .int .i64 0) (w' := w) (by simp [execOp, hop, resolve, hc, invoke, builtin, array1 hx, array1 htt, hv, Builtin.cap_, run_underlying hu, goInt]) (nx_put hg hd (val_cl rfl) h)

theorem int_type (hT : TTok P) {t : Nat} (h : isIntT t = true) : P.underlying t = some (.int .i64) := by
  unfold isIntT at h
  split at h
  · rename_i ht
    obtain ⟨d, hd, _, _, _, _, hk, _⟩ := (hT _ _ ht).und
    rw [hd, hk _ _ rfl rfl]
  · cases h

theorem wrap_i64' {n : Int} (h1 : -9223372036854775808 ≤ n) (h2 : n ≤ 9223372036854775807) : IntKind.i64.wrap n = n := by
  simp only [IntKind.wrap, IntKind.bits, IntKind.signed]; simp; omega

theorem run_append_zero {w : World} {t t' ty e : TypeId} {i : TypeInfo} {z : Value} (ht : P.underlying t = some (.slice e)) (ht' : P.underlying t' = some (.int .i64)) (hi : P.info? e = some i) (hz : i.zero = some z) {n : Int} (h0 : 0 < n) (hfit : n.toNat * (i.bytes + 1) ≤ 140737488355328) (hsz : n.toNat * i.size ≠ 0) :
    (Builtin.append_ #[t, t'] ty #[.slice none 0 0, .int .i64 n]).run P w = .ok (.slice (some ⟨w.heap.size, 0, none⟩) n.toNat (grownCap w n.toNat 0 e))
      (w.drew.alloc (.cells (Builtin.zeroCells z.cells n.toNat ++ Builtin.zeroCells z.cells (grownCap w n.toNat 0 e - n.toNat)) e)) := by
  rw [Nat.mul_add, Nat.mul_one] at hfit
  have hn : ((n.toNat : Nat) : Int) = n := by omega
  have hw : IntKind.i64.wrap n = n := wrap_i64' (by omega) (by omega)
  have h1 : ¬ (n < 0) := by omega
  have h2 : ¬ (281474976710656 < n * (i.bytes : Int)) := by
    rw [← hn, ← Int.natCast_mul]; omega
  have h3 : ¬ (n.toNat = 0) := by omega
  have h5 : ¬ (n ≤ 0) := by omega
  have h4 := (show Reads w i.size (.slice none 0 0) 0 [] from ⟨none, 0, rfl, by simp, fun _ _ j u hj => by simp at hj, fun _ => rfl⟩).run (P := P) (w1 := w.drew) (fun _ => rfl)
  have h63' : ¬ (9223372036854775807 < ((n.toNat : Nat) : Int)) := by omega
  have h48' : ¬ (281474976710656 < Builtin.nextslicecap n.toNat 0 * i.bytes) := by
    have := growslice_fits (need := n.toNat) (old := 0) (bytes := i.bytes) (by omega) (by omega)
    omega
  simp [Builtin.append_, run_underlying ht, run_underlying ht', sizeOf, typeInfo, zeroValue, hi, hz, hw, h1, h2, h3, h63', h48', hsz, Question.forced, newRow, grownCap, asInt, asIntOf, h4]
  rw [if_neg h5, if_neg (by omega)]

theorem op_append_zero (hT : TTok P) (hg : G E M σ a w) {d : Nat} (hdst : o.dst = some d) (hdn : d < σ.n) {c : Call} (hop : o.op = .call c) (hc : c.callee = .builtin .append) {x y : Operand} (hx : c.args.toList = [x, y]) {t t' : Nat} (htt : c.argTypes.toList = [t, t'])
    {e : Nat} {i : TI} (ht : elemOf t = some (e, i)) (ht' : isIntT t' = true) (h : appendZ (stdA P) i d (eval σ x) (eval σ y) σ K) : o.wp P a w (Nx E K) Q := by
  unfold appendZ at h
  split at h
  · rename_i hnil
    split at h
    · rename_i n z hn hz
      split at h
      · exact h.elim
      rename_i hs0
      obtain ⟨hn0, hfit, h⟩ := h
      simp only [stdA] at h hfit
      unfold appendNew at h
      split at h
      · exact h.elim
      · obtain ⟨hlt, hio, hg1, hfr, hκ, hK⟩ := mkF_ok hg h
        have hcl := cls_lt hlt
        obtain ⟨hu, inf, zv, cs, hi, hsz, hby, hzv, hzero, hclen, hone, hcells⟩ := elem_types hT ht
        have hu' := int_type hT ht'
        have hv := nilPV_val hg hnil
        have hvy := intOf_val hn (eval_cl hg y)
        have hzs : zv.cells.size = i.size := by rw [hcells]; exact hclen
        have hargs : c.args = #[x, y] := by cases hh : c.args; simp [hh] at hx; rw [hx]
        have htys : c.argTypes = #[t, t'] := by cases hh : c.argTypes; simp [hh] at htt; rw [htt]
        have hrun : ∀ v w', (Builtin.append_ #[t, t'] o.type #[.slice none 0 0, .int .i64 n]).run P w = .ok v w' → (execOp a.eval o).run P w = .ok (.value v) w' := by
          intro v w' hr
          simp [execOp, hop, resolve, hc, invoke, builtin, hargs, htys, hv, hvy, hr]
        by_cases hn1 : n = 0
        · subst hn1
          have ht1 := off_turn hg1 d (fun b => hκ d b hcl)
          have hg2 := hg1.new ht1 (fun b => hκ d b hcl) (hfr d hcl) (noIo_none hio hcl) (f := .row [] i.size .free false) (by simp) ⟨fun _ => by simp, by simp [rubs], fun h => absurd rfl h, [], .nil _ _ _, rfl⟩
          have hK0 : K (put (putF (retire (stdA P) σ d) d (.row [] i.size .free false)) d (.own d none)) := hK
          refine wp_val (v := .slice none 0 0) (w' := w) (hrun _ _ (by
            have hw : IntKind.i64.wrap 0 = 0 := wrap_i64' (by omega) (by omega)
            simp [Builtin.append_, run_underlying hu, run_underlying hu', sizeOf, typeInfo, hi, asInt, asIntOf, hw])) ?_
          rw [hdst]
          refine ⟨_, _, hg2.put hdn (s := .own d none) (fun es sz u io hf => ?_), hK0⟩
          rcases putF_files.1 hf with ⟨_, e⟩ | ⟨e, _⟩
          · cases e
            exact ⟨none, 0, rfl, Nat.le_refl _, Nat.le_refl _, Nat.le_refl _, fun h => absurd rfl h⟩
          · exact absurd rfl e
        · have hm : 0 < n.toNat := by omega
          have run1 := run_append_zero (P := P) (w := w) (t := t) (t' := t') (ty := o.type) hu hu' hi hzv (n := n) (by omega) (by rw [hby]; exact hfit) (by rw [hsz]; exact Nat.mul_ne_zero (by omega) hs0)
          have hcapge := grownCap_ge w n.toNat 0 e
          generalize grownCap w n.toNat 0 e = cap' at run1 hcapge
          generalize hce : Builtin.zeroCells zv.cells n.toNat ++ Builtin.zeroCells zv.cells (cap' - n.toNat) = ce at run1
          have hz1 : (Builtin.zeroCells zv.cells n.toNat).size = n.toNat * i.size := by simp [Builtin.zeroCells, hzs]
          have hce3 : cap' * i.size ≤ ce.size := by
            rw [← hce]
            simp only [Array.size_append, size_zeroCells, hzs, ← Nat.add_mul]
            exact Nat.mul_le_mul_right _ (by omega)
          have hnew : (w.drew.alloc (.cells ce e (0, 0))).heap[w.heap.size]? = some (.cells ce e (0, 0)) := alloc_new (w := w) (w1 := w.drew) rfl _
          have f3 : RepRow (w.drew.alloc (.cells ce e (0, 0))) w.heap.size i.size 0 (List.replicate n.toNat z) [] := zeros_row hz hzero hclen hone hcells (fun j v hj => by
            have hj1 := (List.getElem?_eq_some_iff.1 hj).1
            rw [cell_of hnew, Nat.zero_add, ← hce, Array.getElem?_append_left (by simpa using hj1)]
            simpa using hj)
          have hg2 := made_row hg1 (hfr d hcl) (fun b => hκ d b hcl) (noIo_none hio hcl) (w1 := w.drew) rfl rfl ⟨rfl, Nat.le_succ _⟩ rfl f3 (u := .free) rfl rfl (by simp [rubs])
          refine wp_val (v := .slice (some ⟨w.heap.size, 0, none⟩) n.toNat cap') (w' := w.drew.alloc (.cells ce e (0, 0))) (hrun _ _ run1) ?_
          rw [hdst]
          have := own_new (E := E) (M := M.drop d) (σ := retire (stdA P) σ d) (d := d) (b := w.heap.size) (es := List.replicate n.toNat z) (sz := i.size) (u := .free) (cap := cap') hnew (by rw [List.length_replicate]; omega) hce3
          rw [List.length_replicate] at this
          exact ⟨_, _, hg2.put hdn this, hK⟩
    · exact h.elim
  · exact h.elim

theorem cut_row (hg : G E M σ a w) {t l id sz : Nat} {es : List PV} {u : RU} (hs : σ.slots t = .own id (some (0, l))) (hf : σ.files id = some (.row es sz u false)) (hnd : isDeepU u = false) :
    G E M (put (putF (kill true σ id) id (.row (es.take l) sz u false)) t (.own id none)) a w := by
  have hh := hg.slots t
  rw [hs] at hh
  obtain ⟨a0, cap, hv, h1, h2, h3, h4⟩ := hh _ _ _ _ hf
  obtain ⟨k0, k1, k2, F, k3, k4⟩ := hg.files _ _ hf
  have hll : (es.take l).length = l := by simp; omega
  have hnoio : E.io id = none := by
    cases hq : E.io id with
    | none => rfl
    | some q => obtain ⟨b, o, n, sz⟩ := q; obtain ⟨⟨es', _, hf', _⟩, _⟩ := hg.io _ _ _ _ _ hq; rw [hf] at hf'; cases hf'
  have hframe : ∀ b, M.κ b = some id → b < E.w0.heap.size → ∃ i, E.lentB i b := fun b hk hb => ⟨id, hg.lent b id hb hk⟩
  have ht1 : Turn E id M M w w := ⟨fun _ _ _ => rfl, Nat.le_refl _, fun _ _ _ => rfl, fun b j h h' => by rw [h] at h'; cases h'; exact rfl, fun b j hb h => by have := (hg.own _ _ h); omega, fun _ _ => ⟨rfl, rfl⟩, rfl, TapeLe.rfl', rfl⟩
  obtain ⟨F1, f1, f2⟩ := k3.take l
  have hg2 := hg.turn (hdr := true) ht1 hf (f' := .row (es.take l) sz u false) (fun h => by cases h) (fun _ ls => ⟨by simp, by simp⟩)
    ⟨k0, k1, fun h => k2 (fun e => h (by rw [e]; simp)), F1, f1, by
      cases u with
      | free => simp only [GoodU] at k4 ⊢; subst k4; exact List.eq_nil_iff_forall_not_mem.2 (fun c hc => by have := f2 c hc; simp at this)
      | sh bs => exact fun b hb => k4 b (f2 b hb)
      | deep z0 zs => cases hnd⟩
    (fun b hk hb => hg.lent b id hb hk) hframe (fun _ _ _ _ e hk => by first | (cases e; done) | (cases e; exact hg.iob _ _ _ _ _ hf hk)) (fun b oo n sz' hq => by rw [hnoio] at hq; cases hq)
  have hcl : ClS E M (putF (kill true σ id) id (.row (es.take l) sz u false)) w (.own id none) (a.tmps.getD t undef) := by
    intro es' sz' u' io' hf'
    rcases putF_files.1 hf' with ⟨_, e⟩ | ⟨e, _⟩
    · cases e
      exact ⟨a0, cap, by rw [hll]; exact hv, by omega, by omega, by omega, h4⟩
    · exact absurd rfl e
  exact { hg2 with
    slots := fun k => by
      refine ClS.same (σ := putF (kill true σ id) id (.row (es.take l) sz u false)) (fun s v h => Cl1.files rfl s v h) ?_
      show ClS E M _ w (upd (putF (kill true σ id) id (.row (es.take l) sz u false)).slots t (.own id none) k) _
      unfold upd
      by_cases hk : k = t
      · rw [if_pos hk, hk]; exact hcl
      · rw [if_neg hk]; exact hg2.slots k
    files := fun id f hf => (hg2.files id f hf).files rfl }

theorem cut_ok (hg : G E M σ a w) {c : Call} {K' : St → Prop} (h : cutA (stdA P) c σ K') : ∃ σ', G E M σ' a w ∧ σ'.n = σ.n ∧ K' σ' := by
  unfold cutA at h
  split at h
  · split at h
    · split at h
      · rename_i id l hs
        split at h
        · rename_i es sz u hf
          split at h
          · exact h.elim
          · rename_i hnd
            have h : K' (put (putF (kill true σ id) id (.row ((es.drop 0).take l) sz u false)) _ (.own id none)) := h
            rw [List.drop_zero] at h
            exact ⟨_, cut_row hg hs hf (by simpa using hnd), rfl, h⟩
        · exact ⟨_, hg, rfl, h⟩
      · exact ⟨_, hg, rfl, h⟩
    · exact ⟨_, hg, rfl, h⟩
  · exact ⟨_, hg, rfl, h⟩

def Mp.ren (M : Mp) (d d' : Nat) : Mp := { κ := fun b => (M.κ b).map (rn d d'), blk := fun j => M.blk (if j = d' then d else j), off := fun j => M.off (if j = d' then d else j) }

theorem rn_back {d d' j : Nat} (h : j ≠ d') : (if rn d d' j = d' then d else rn d d' j) = j := by
  unfold rn
  by_cases e : j = d
  · rw [if_pos e, if_pos rfl, e]
  · rw [if_neg e, if_neg h]
theorem rn_ne {d d' j : Nat} (hd : d ≠ d') : rn d d' j ≠ d := by
  unfold rn; split
  · exact fun e => hd e.symm
  · assumption
theorem rn_of {d d' j : Nat} (h1 : j ≠ d) (h2 : j ≠ d') : rn d d' (if j = d' then d else j) = j := by rw [if_neg h2]; unfold rn; rw [if_neg h1]
theorem Mp.ren_blk {M : Mp} {d d' j : Nat} (h : j ≠ d') : (M.ren d d').blk (rn d d' j) = M.blk j ∧ (M.ren d d').off (rn d d' j) = M.off j := by
  exact ⟨by show M.blk _ = _; rw [rn_back h], by show M.off _ = _; rw [rn_back h]⟩
theorem Mp.ren_κ {M : Mp} {d d' j b : Nat} (h : M.κ b = some j) : (M.ren d d').κ b = some (rn d d' j) := by unfold Mp.ren; simp only [h]; rfl

theorem ren_files {d d' j : Nat} (hd : d ≠ d') {f : File} : (renS σ d d').files (rn d d' j) = some f → j ≠ d' → ∃ f0, σ.files j = some f0 ∧ renF d d' f0 = some f := by
  intro h hj
  unfold renS at h
  simp only [if_neg (rn_ne (j := j) hd), rn_back hj] at h
  split at h
  · rename_i f0 hf0; exact ⟨f0, hf0, h⟩
  · cases h
theorem ren_row {d d' : Nat} {f0 : File} {es : List PV} {sz : Nat} {u : RU} {io : Bool} (h : renF d d' f0 = some (.row es sz u io)) : ∃ u0, f0 = .row es sz u0 io := by
  cases f0 with
  | cell ls => simp [renF] at h
  | row es' sz' u' io' =>
    cases u' with
    | free => simp only [renF, Option.some.injEq, File.row.injEq] at h; obtain ⟨rfl, rfl, rfl, rfl⟩ := h; exact ⟨_, rfl⟩
    | deep z0 zs => simp only [renF, Option.some.injEq, File.row.injEq] at h; obtain ⟨rfl, rfl, rfl, rfl⟩ := h; exact ⟨_, rfl⟩
    | sh bs =>
      simp only [renF] at h
      split at h
      · cases h
      · simp only [Option.some.injEq, File.row.injEq] at h; obtain ⟨rfl, rfl, rfl, rfl⟩ := h; exact ⟨_, rfl⟩
theorem ren_cell {d d' : Nat} {f0 : File} {ls : List Slot} (h : renF d d' f0 = some (.cell ls)) : ∃ ls0, f0 = .cell ls0 ∧ ls = ls0.map (map2 (ren1 d d')) := by
  cases f0 with
  | cell ls0 => simp only [renF, Option.some.injEq, File.cell.injEq] at h; exact ⟨ls0, rfl, h.symm⟩
  | row es' sz' u' io' =>
    cases u' with
    | free => simp [renF] at h
    | deep z0 zs => simp [renF] at h
    | sh bs => simp only [renF] at h; split at h <;> simp at h

theorem ren_good {M : Mp} {w : World} {d d' : Nat} {bs F : List Nat} (h : Good E M w bs F) : Good E (M.ren d d') w (bs.map (rn d d')) F := fun b hb => by
  obtain ⟨h1, h2⟩ := h b hb
  refine ⟨h1, ?_⟩
  rcases h2 with ⟨h2, h3⟩ | ⟨id, h2, h3⟩
  · exact .inl ⟨by unfold Mp.ren; simp only [h2]; rfl, h3⟩
  · exact .inr ⟨_, List.mem_map_of_mem h2, Mp.ren_κ h3⟩
theorem ren_hdr {M : Mp} {w : World} {d d' id n sz o l : Nat} {v : Value} (h : Hdr M w id n sz o l v) (hid : id ≠ d') : Hdr (M.ren d d') w (rn d d' id) n sz o l v := by
  obtain ⟨a0, cap, h1, h2, h3, h4, h5⟩ := h
  refine ⟨a0, cap, h1, h2, h3, h4, fun hc => ?_⟩
  obtain ⟨q1, q2, q3⟩ := h5 hc
  rw [(Mp.ren_blk hid).1, (Mp.ren_blk hid).2]
  exact ⟨q1, Mp.ren_κ q2, q3⟩

theorem ren_cl1 {M : Mp} {w : World} {d d' : Nat} (hd : d ≠ d') (s : Slot) (v : Value) (h : Cl1 E M σ w s v) : Cl1 E (M.ren d d') (renS σ d d') w (ren1 d d' s) v := by
  cases s with
  | pv r bs =>
    simp only [ren1]
    split
    · trivial
    · obtain ⟨F, h1, h2⟩ := h; exact ⟨F, h1, ren_good h2⟩
  | own id sub =>
    simp only [ren1]
    split
    · trivial
    · rename_i hid
      cases sub with
      | none =>
        intro es sz u io hf
        obtain ⟨f0, hf0, e⟩ := ren_files hd hf hid
        obtain ⟨u0, rfl⟩ := ren_row e
        exact ren_hdr (h _ _ _ _ hf0) hid
      | some p =>
        obtain ⟨o, l⟩ := p
        intro es sz u io hf
        obtain ⟨f0, hf0, e⟩ := ren_files hd hf hid
        obtain ⟨u0, rfl⟩ := ren_row e
        exact ren_hdr (h _ _ _ _ hf0) hid
  | ref id o =>
    simp only [ren1]
    split
    · trivial
    · rename_i hid
      intro ls hf
      obtain ⟨f0, hf0, e⟩ := ren_files hd hf hid
      obtain ⟨ls0, rfl, -⟩ := ren_cell e
      rw [(Mp.ren_blk hid).1]
      exact h _ hf0
  | rref id i o =>
    simp only [ren1]
    split
    · trivial
    · rename_i hid
      intro es sz u io hf
      obtain ⟨f0, hf0, e⟩ := ren_files hd hf hid
      obtain ⟨u0, rfl⟩ := ren_row e
      rw [(Mp.ren_blk hid).1, (Mp.ren_blk hid).2]
      exact h _ _ _ _ hf0
  | lf id i o ys =>
    simp only [ren1]
    split
    · trivial
    · rename_i hid
      intro es sz u io hf
      obtain ⟨f0, hf0, e⟩ := ren_files hd hf hid
      obtain ⟨u0, rfl⟩ := ren_row e
      rw [(Mp.ren_blk hid).1, (Mp.ren_blk hid).2]
      exact h _ _ _ _ hf0
  | undef => exact h
  | dead => trivial
  | ag ls => exact h.elim
  | clo f ls => exact h.elim
  | tup ls => exact h.elim

theorem ren_noTup {d d' : Nat} {s : Slot} (h : noTup s = true) : noTup (ren1 d d' s) = true ∨ ren1 d d' s = .dead := by
  cases s with
  | pv r bs =>
    simp only [ren1]
    split
    · exact .inr rfl
    · left; cases r <;> first | exact h | rfl
  | own id sub => simp only [ren1]; split <;> first | exact .inr rfl | exact .inl rfl
  | ref id o => simp only [ren1]; split <;> first | exact .inr rfl | exact .inl rfl
  | rref id i o => simp only [ren1]; split <;> first | exact .inr rfl | exact .inl rfl
  | _ => simp [noTup] at h

theorem map2_leaf {g : Slot → Slot} {s : Slot} (h : noTup s = true) : map2 g s = g s := by
  cases s <;> first | rfl | simp [noTup] at h

theorem ren_ok (hg : G E M σ a w) {d d' : Nat} (hd : d ≠ d') (hk : ∀ b, M.κ b ≠ some d') (h1 : E.io d = none) (h2 : E.io d' = none) : G E (M.ren d d') (renS σ d d') a w where
  slots k := (hg.slots k).map (fun s v h => ren_cl1 hd s v h)
  tmps := hg.tmps
  files j f hf := by
    have hj : j ≠ d := fun e => by unfold renS at hf; simp only [if_pos e] at hf; cases hf
    obtain ⟨i, hi, rfl⟩ : ∃ i, i ≠ d' ∧ rn d d' i = j := by
      by_cases e : j = d'
      · exact ⟨d, hd, by unfold rn; rw [if_pos rfl, e]⟩
      · exact ⟨j, e, by unfold rn; rw [if_neg hj]⟩
    obtain ⟨f0, hf0, e⟩ := ren_files hd hf hi
    have h := hg.files i f0 hf0
    cases f0 with
    | cell ls =>
      simp only [renF, Option.some.injEq] at e
      subst e
      obtain ⟨q1, c, e, q2, q3⟩ := h
      refine ⟨by rw [(Mp.ren_blk hi).1]; exact Mp.ren_κ q1, c, e, by rw [(Mp.ren_blk hi).1]; exact q2, q3.imp fun s v hs => ?_⟩
      rcases hs with ⟨p1, p2, p3⟩ | rfl
      · rw [map2_leaf p3]
        rcases ren_noTup (d := d) (d' := d') p3 with q | q
        · exact .inl ⟨ren_cl1 hd s v p1, p2, q⟩
        · exact .inr q
      · exact .inr rfl
    | row es sz u io =>
      obtain ⟨k0, k1, k2, F, k3, k4⟩ := h
      have hne : es ≠ [] → (M.ren d d').κ ((M.ren d d').blk (rn d d' i)) = some (rn d d' i) ∧ ∃ c e, w.heap[(M.ren d d').blk (rn d d' i)]? = some (.cells c e (0, 0)) := fun h => by
        rw [(Mp.ren_blk hi).1]; exact ⟨Mp.ren_κ (k2 h).1, (k2 h).2⟩
      cases u with
      | free =>
        simp only [renF, Option.some.injEq] at e
        subst e
        exact ⟨by rw [(Mp.ren_blk hi).2]; exact k0, by simp [rubs], hne, F, by rw [(Mp.ren_blk hi).1, (Mp.ren_blk hi).2]; exact k3, k4⟩
      | deep z0 zs =>
        simp only [renF, Option.some.injEq] at e
        subst e
        obtain ⟨⟨N, n1, n2, n3⟩, n4⟩ := k4
        refine ⟨by rw [(Mp.ren_blk hi).2]; exact k0, by simp [rubs], hne, F, by rw [(Mp.ren_blk hi).1, (Mp.ren_blk hi).2]; exact k3, ⟨N, by rw [(Mp.ren_blk hi).1, (Mp.ren_blk hi).2]; exact n1, n2, fun c hc => ?_⟩, fun c hc => ?_⟩
        · rw [(Mp.ren_blk hi).1]; exact ⟨Mp.ren_κ (n3 c hc).1, (n3 c hc).2⟩
        · rw [(Mp.ren_blk hi).1]; exact ⟨Mp.ren_κ (n4 c hc).1, (n4 c hc).2⟩
      | sh bs =>
        simp only [renF] at e
        split at e
        · cases e
        · rename_i hbs
          simp only [Option.some.injEq] at e
          subst e
          refine ⟨by rw [(Mp.ren_blk hi).2]; exact k0, fun hm => ?_, hne, F, by rw [(Mp.ren_blk hi).1, (Mp.ren_blk hi).2]; exact k3, ren_good k4⟩
          obtain ⟨x, hx, ex⟩ := List.mem_map.1 hm
          have hx' : x ≠ d' := fun e => hbs (by subst e; simpa using hx)
          have : x = i := by
            have e1 := rn_back (d := d) hx'
            have e2 := rn_back (d := d) hi
            rw [ex] at e1
            exact e1.symm.trans e2
          exact k1 (by rw [← this]; exact hx)
  defers := hg.defers
  own b id h := by
    unfold Mp.ren at h
    simp only at h
    cases hb : M.κ b with
    | none => rw [hb] at h; cases h
    | some j =>
      rw [hb] at h
      simp only [Option.map_some, Option.some.injEq] at h
      subst h
      exact hg.own _ _ hb
  lent b id hb h := by
    unfold Mp.ren at h
    simp only at h
    cases hbk : M.κ b with
    | none => rw [hbk] at h; cases h
    | some j =>
      rw [hbk] at h
      simp only [Option.map_some, Option.some.injEq] at h
      obtain ⟨q, hq, hq2⟩ := hg.lent b j hb hbk
      have : j ≠ d := fun e => by rw [e, h1] at hq; cases hq
      have er : rn d d' j = j := by unfold rn; rw [if_neg this]
      subst h
      rw [er]
      exact ⟨q, hq, hq2⟩
  frame := hg.frame
  size := hg.size
  os := hg.os
  tape := hg.tape
  out := hg.out
  iob id es sz u b hf hb := by
    have hj : id ≠ d := fun e => by unfold renS at hf; simp only [if_pos e] at hf; cases hf
    obtain ⟨i, hi, rfl⟩ : ∃ i, i ≠ d' ∧ rn d d' i = id := by
      by_cases e : id = d'
      · exact ⟨d, hd, by unfold rn; rw [if_pos rfl, e]⟩
      · exact ⟨id, e, by unfold rn; rw [if_neg hj]⟩
    obtain ⟨f0, hf0, e⟩ := ren_files hd hf hi
    obtain ⟨u0, rfl⟩ := ren_row e
    unfold Mp.ren at hb
    simp only at hb
    cases hbk : M.κ b with
    | none => rw [hbk] at hb; cases hb
    | some j =>
      rw [hbk] at hb
      simp only [Option.map_some, Option.some.injEq] at hb
      have hjd : j ≠ d' := fun e => hk b (by rw [hbk, e])
      have : j = i := by
        have e1 := rn_back (d := d) hjd
        have e2 := rn_back (d := d) hi
        rw [hb] at e1
        exact e1.symm.trans e2
      subst this
      exact hg.iob _ _ _ _ _ hf0 hbk
  io id b o n sz h := by
    obtain ⟨⟨es, u, hf, hnu, hn⟩, q1, q2, q3, q4⟩ := hg.io _ _ _ _ _ h
    have e1 : id ≠ d := fun e => by rw [e, h1] at h; cases h
    have e2 : id ≠ d' := fun e => by rw [e, h2] at h; cases h
    have er : rn d d' id = id := by unfold rn; rw [if_neg e1]
    have hb := Mp.ren_blk (M := M) (d := d) e2
    rw [er] at hb
    refine ⟨⟨es, u, ?_, hnu, hn⟩, by rw [hb.1]; exact q1, by rw [hb.2]; exact q2, by have := Mp.ren_κ (d := d) (d' := d') q3; rwa [er] at this, q4⟩
    unfold renS
    simp only [if_neg e1, if_neg e2, hf]
    cases u with
    | sh bs => cases hnu
    | free => rfl
    | deep z0 zs => rfl

set_option maxRecDepth 20000 in
theorem keep_ok (hg : G E M σ a w) {K' : St → Prop} (h : keepA (stdA P) o σ K') : ∃ M' σ', G E M' σ' a w ∧ σ'.n = σ.n ∧ K' σ' := by
  unfold keepA at h
  split at h
  · rename_i v d hk hd
    split at h
    · split at h
      · have q := mkF_ok (d := kid d) hg h
        have hlt := q.1
        have hio := q.2.1
        have hg1 := q.2.2.1
        have hκ := q.2.2.2.2.1
        have h := q.2.2.2.2.2
        split at h
        · rename_i hok
          have hc : cls (kid d) = kid d := cls_lt hlt
          have hne : d ≠ kid d := Nat.ne_of_lt (Nat.lt_add_of_pos_right (by decide))
          refine ⟨_, _, ren_ok hg1 hne (fun b => hκ _ b hc) ?_ (noIo_none hio hc), rfl, h⟩
          cases hq : E.io d with
          | none => rfl
          | some q => have h1 := E.small d q hq; have h2 := okD_lt hok; rw [cls_lt h2.2] at h1; omega
        · exact h.elim
      · exact ⟨_, _, hg, rfl, h⟩
    · exact ⟨_, _, hg, rfl, h⟩
  · exact ⟨_, _, hg, rfl, h⟩

end ops
end Go.VAI
