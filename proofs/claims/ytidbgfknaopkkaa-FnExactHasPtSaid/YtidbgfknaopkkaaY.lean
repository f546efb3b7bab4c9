/- slices.SortFunc on points, by the library's contract; the list that it leaves. -/
import Derived.Test.YtidbgfknaopkkaaN
import Derived.Shelf.SlSortCmp.WholeK
import Derived.Shelf.SlSortCmp.NoneTotal
namespace Go.Proofs
open Go.Shelf
def Try.sortPt_ren : Go.Shelf.Ren := ⟨fun | 6 => 102 | 15 => 119 | 14 => 118 | 28 => 132 | 29 => 133 | 20 => 124 | 21 => 125 | 22 => 126 | 23 => 127 | 24 => 128 | 25 => 129 | 26 => 130 | 27 => 131 | 46 => 135 | 47 => 136 | 48 => 137 | 49 => 138 | 50 => 139 | 57 => 140 | n => n, fun | 22 => 28 | 24 => 53 | 25 => 86 | 3 => 3 | 39 => 95 | 0 => 0 | 53 => 109 | 55 => 111 | 4 => 4 | 46 => 102 | 45 => 101 | 50 => 106 | 5 => 5 | 9 => 9 | 66 => 112 | 70 => 116 | 76 => 118 | 77 => 77 | n => n, fun | n => n⟩
theorem Try.sortPt : Go.Proofs.SlLaysF0.n6 Try.prog Try.sortPt_ren := {
  mixed := by kernel_rfl
  f6 := ⟨Try.f102.name, by decide, Try.func102.trans (congrArg some (by kernel_rfl))⟩
  f14 := ⟨Try.f118.name, by decide, Try.func118.trans (congrArg some (by kernel_rfl))⟩
  f15 := Try.func119.trans (congrArg some (by kernel_rfl))
  f20 := ⟨Try.f124.name, by decide, Try.func124.trans (congrArg some (by kernel_rfl))⟩
  f21 := ⟨Try.f125.name, by decide, Try.func125.trans (congrArg some (by kernel_rfl))⟩
  f22 := ⟨Try.f126.name, by decide, Try.func126.trans (congrArg some (by kernel_rfl))⟩
  f23 := ⟨Try.f127.name, by decide, Try.func127.trans (congrArg some (by kernel_rfl))⟩
  f24 := ⟨Try.f128.name, by decide, Try.func128.trans (congrArg some (by kernel_rfl))⟩
  f25 := ⟨Try.f129.name, by decide, Try.func129.trans (congrArg some (by kernel_rfl))⟩
  f26 := ⟨Try.f130.name, by decide, Try.func130.trans (congrArg some (by kernel_rfl))⟩
  f27 := ⟨Try.f131.name, by decide, Try.func131.trans (congrArg some (by kernel_rfl))⟩
  f28 := Try.func132.trans (congrArg some (by kernel_rfl))
  f29 := Try.func133.trans (congrArg some (by kernel_rfl))
  f46 := ⟨Try.f135.name, by decide, Try.func135.trans (congrArg some (by kernel_rfl))⟩
  f47 := Try.func136.trans (congrArg some (by kernel_rfl))
  f48 := Try.func137.trans (congrArg some (by kernel_rfl))
  f49 := ⟨Try.f138.name, by decide, Try.func138.trans (congrArg some (by kernel_rfl))⟩
  f50 := ⟨Try.f139.name, by decide, Try.func139.trans (congrArg some (by kernel_rfl))⟩
  f57 := ⟨Try.f140.name, by decide, Try.func140.trans (congrArg some (by kernel_rfl))⟩
  t0 := Try.underlying0
  a0 := Try.isAgg0
  z0 := Try.sizeOf0
  v0 := Try.zeroValue0
  t3 := Try.underlying3
  a3 := Try.isAgg3
  z3 := Try.sizeOf3
  v3 := Try.zeroValue3
  t4 := Try.underlying4
  a4 := Try.isAgg4
  z4 := Try.sizeOf4
  v4 := Try.zeroValue4
  t5 := Try.underlying5
  a5 := Try.isAgg5
  z5 := Try.sizeOf5
  v5 := Try.zeroValue5
  t9 := Try.underlying9
  a9 := Try.isAgg9
  z9 := Try.sizeOf9
  v9 := Try.zeroValue9
  t22 := Try.underlying28
  a22 := Try.isAgg28
  z22 := Try.sizeOf28
  v22 := Try.zeroValue28
  t25 := Try.underlying86
  a25 := Try.isAgg86
  z25 := Try.sizeOf86
  v25 := Try.zeroValue86
  t39 := Try.underlying95
  a39 := Try.isAgg95
  z39 := Try.sizeOf95
  v39 := Try.zeroValue95
  t45 := Try.underlying101
  a45 := Try.isAgg101
  z45 := Try.sizeOf101
  v45 := Try.zeroValue101
  t46 := Try.underlying102
  a46 := Try.isAgg102
  z46 := Try.sizeOf102
  v46 := Try.zeroValue102
  t50 := Try.underlying106
  a50 := Try.isAgg106
  z50 := Try.sizeOf106
  v50 := Try.zeroValue106
  t53 := Try.underlying109
  a53 := Try.isAgg109
  z53 := Try.sizeOf109
  v53 := Try.zeroValue109
  t55 := Try.underlying111
  a55 := Try.isAgg111
  z55 := Try.sizeOf111
  v55 := Try.zeroValue111
  t66 := Try.underlying112
  a66 := Try.isAgg112
  z66 := Try.sizeOf112
  v66 := Try.zeroValue112
  t70 := Try.underlying116
  a70 := Try.isAgg116
  z70 := Try.sizeOf116
  v70 := Try.zeroValue116
  t76 := Try.underlying118
  a76 := Try.isAgg118
  z76 := Try.sizeOf118
  v76 := Try.zeroValue118
  t77 := Try.underlying77
  a77 := Try.isAgg77
  z77 := Try.sizeOf77
  v77 := Try.zeroValue77 }
end Go.Proofs
namespace Go.VAI
open Go.Proofs
set_option maxRecDepth 100000
set_option maxHeartbeats 8000000

theorem d_Compare_all {x y : Int} : Does Try.prog 121 [i64 x, i64 y] (.pv (i64 (sgn (x - y)))) [] := by
  refine does_of hT hM Try.func121 rfl (D := []) (by kernel_rfl) rfl rfl rfl (fun A K hA hK => ?_)
  cbv
  refine Ar.callB hA c_cmp_isNaN_int d_cmp_isNaN_int rfl (fun r hr => ?_)
  subst hr
  cbv
  refine Ar.callB hA c_cmp_isNaN_int d_cmp_isNaN_int rfl (fun r hr => ?_)
  subst hr
  cbv
  repeat' (first
    | (refine Ar.nn_ hA (by omega) ?_; cbv)
    | (refine Ar.toN_ hA (fun _ _ => ?_); cbv)
    | (refine Ar.notT_ hA ?_; cbv)
    | (refine Ar.notF_ hA ?_; cbv)
    | (refine Ar.lss_ hA (fun _ => ?_) (fun _ => ?_) <;> cbv)
    | (refine Ar.leq_ hA (fun _ => ?_) (fun _ => ?_) <;> cbv)
    | (refine Ar.gtr_ hA (fun _ => ?_) (fun _ => ?_) <;> cbv)
    | (refine Ar.geq_ hA (fun _ => ?_) (fun _ => ?_) <;> cbv)
    | (refine Ar.eql_ hA (fun _ => ?_) (fun _ => ?_) <;> cbv)
    | (refine Ar.neq_ hA (fun _ => ?_) (fun _ => ?_) <;> cbv)
    | (refine Ar.add_ hA (by omega) (fun _ _ => ?_); cbv)
    | (refine Ar.sub_ hA (by omega) (fun _ _ => ?_); cbv)
    | (refine Ar.neg_ hA (by omega) (fun _ _ => ?_); cbv)
    | (refine Ar.mulB hA 2000 2000 (by omega) (by omega) (by omega) (fun _ _ _ _ => ?_); cbv)
    | (refine Ar.mulB hA 3000000000 3000000000 (by omega) (by omega) (by omega) (fun _ _ _ _ => ?_); cbv)
    | (refine Ar.nz_ hA (by omega) ?_; cbv)
    | (refine Ar.rem_ hA (by omega) (fun _ _ => ?_); cbv)
    | (refine Ar.quo_ hA (by omega) (fun _ _ => ?_); cbv)
    | (refine Ar.mx_ hA (fun _ _ => ?_); cbv)
    | (refine Ar.mn_ hA (fun _ _ => ?_); cbv)
    | (refine Ar.len_ hA (fun _ _ _ => ?_); cbv)
    | (refine Ar.lenN_ hA (fun _ _ => ?_); cbv)
    | (refine Ar.bneq_ hA (fun _ => ?_) (fun _ => ?_) <;> cbv)
    | (refine Ar.beq_ hA (fun _ => ?_) (fun _ => ?_) <;> cbv)
    | (refine Ar.ofN_ hA (fun _ _ _ => ?_); cbv)
)
  all_goals exact hK _ _ (by simp [sgn]; omega) rfl

theorem d_comparePts_all {ax ay bx b_y : Int} : Does Try.prog 103 [pt ax ay, pt bx b_y] (.pv (i64 (cmpP ⟨ax, ay⟩ ⟨bx, b_y⟩))) [] := by
  refine does_of hT hM Try.func103 rfl (D := []) (by kernel_rfl) rfl rfl rfl (fun A K hA hK => ?_)
  have d1 := d_Compare_all (x := ax) (y := bx)
  have d2 := d_Compare_all (x := ay) (y := b_y)
  have hc : cmpP ⟨ax, ay⟩ ⟨bx, b_y⟩ = if sgn (ax - bx) = 0 then sgn (ay - b_y) else sgn (ax - bx) := rfl
  rw [hc] at hK
  clear hc
  generalize sgn (ax - bx) = u at d1 hK
  generalize sgn (ay - b_y) = v at d2 hK
  cbv
  refine Ar.call_ hA c_cmp_Compare_int d1 rfl ?_
  cbv
  refine Ar.call_ hA c_cmp_Compare_int d2 rfl ?_
  cbv
  refine Ar.callI hA c_cmp_Or_int (d_cmp_Or_int rfl) rfl (fun r hr => ?_)
  cbv
  exact hK _ _ (by rw [hr]) rfl

theorem world_grow {w w' : World} (hh : ∀ b, b < w.heap.size → w'.heap[b]? = w.heap[b]?) (hs : w.heap.size ≤ w'.heap.size) (ho : w'.os = w.os) (ht : TapeLe w w') (hp : w'.output = w.output) :
    ∃ q os', w' = Go.Sort.grow (w.drewN q) os' := by
  refine ⟨w'.drawn - w.drawn, w'.heap.extract w.heap.size, ?_⟩
  obtain ⟨h', t', d', o', p'⟩ := w'
  obtain ⟨h, t, d, o, p⟩ := w
  simp only at hh hs ho hp ⊢
  obtain ⟨h1, h2⟩ := ht
  simp only at h1 h2
  subst ho hp h1
  have hd : d + (d' - d) = d' := by omega
  have hheap : h ++ h'.extract h.size = h' := by
    apply Array.ext_getElem?
    intro i
    by_cases hi : i < h.size
    · rw [Array.getElem?_append_left hi]; exact (hh i hi).symm
    · rw [Array.getElem?_append_right (by omega), Array.getElem?_extract]
      split
      · rw [show h.size + (i - h.size) = i by omega]
      · exact (Array.getElem?_eq_none (by omega)).symm
  show World.mk h' t' d' o' p' = World.mk (h ++ h'.extract h.size) t' (d + (d' - d)) o' p'
  rw [hheap, hd]

instance : Inhabited P2 := ⟨⟨0, 0⟩⟩
def encP (p : P2) : List Value := [.int .i64 p.x, .int .i64 p.y]

theorem calls_comparePts (x y : P2) (W : World) : Calls Try.prog 103 (#[.agg (encP x).toArray, .agg (encP y).toArray] ++ #[]) W fun e w' => e = .returned (.int .i64 (cmpP x y)) ∧ ∃ q os', w' = Go.Sort.grow (W.drewN q) os' := by
  have hio : inout 103 = [] := rfl
  have hr2 : ∀ p : P2, Rep W (pt p.x p.y) (.agg (encP p).toArray) [] := fun p => .agg (.cons (F := []) (G := []) (.val _ rfl) (.cons (F := []) (G := []) (.val _ rfl) .nil))
  have h := d_comparePts_all (ax := x.x) (ay := x.y) (bx := y.x) (b_y := y.y) W [.agg (encP x).toArray, .agg (encP y).toArray] [[], []]
    { len := rfl, lenF := rfl
      rep := fun k r v F h1 h2 h3 _ => by
        match k, h1, h2, h3 with
        | 0, h1, h2, h3 => cases h1; cases h2; cases h3; exact ⟨hr2 x, by simp, by simp⟩
        | 1, h1, h2, h3 => cases h1; cases h2; cases h3; exact ⟨hr2 y, by simp, by simp⟩
        | k + 2, h1, _, _ => simp at h1
      lent := fun k r v _ _ hk => by rw [hio] at hk; simp at hk
      apart := fun j k u v b hj => by rw [hio] at hj; simp at hj
      io := fun k hk => by rw [hio] at hk; simp at hk }
  refine Calls.mono h (fun e w' hh => ?_)
  obtain ⟨v, he, hp⟩ := hh
  obtain ⟨N, _, _, hr⟩ := hp.res
  obtain ⟨_, F, hF, _⟩ := hr
  have hv : v = .int .i64 (cmpP x y) := by cases hF; rfl
  exact ⟨by rw [he, hv], world_grow (fun b hb => hp.frame b hb (fun k u hk => by rw [hio] at hk; simp at hk)) hp.size hp.os hp.tape hp.out⟩

theorem lt_cmpP (x y : P2) : Go.Proofs.ltOf cmpP x y = lexLess x y := cmpP_lex x y
theorem lex_iff (a b : P2) : lexLess a b = true ↔ a.x < b.x ∨ (a.x = b.x ∧ a.y < b.y) := by unfold lexLess; simp
theorem lex_not (a b : P2) : lexLess a b = false ↔ b.x < a.x ∨ (a.x = b.x ∧ b.y ≤ a.y) := by
  rw [← Bool.not_eq_true, lex_iff]; omega
theorem P2.eq_of {a b : P2} (h1 : a.x = b.x) (h2 : a.y = b.y) : a = b := by cases a; cases b; simp at h1 h2; simp [h1, h2]

theorem swo_cmpP : Go.Sort.SWO (Go.Proofs.ltOf cmpP) where
  irrefl x := by rw [lt_cmpP, lex_not]; omega
  trans x y z h1 h2 := by rw [lt_cmpP, lex_iff] at *; omega
  ntrans x y z h1 h2 := by rw [lt_cmpP, lex_not] at *; omega
theorem tot_cmpP (x y : P2) (h1 : Go.Proofs.ltOf cmpP x y = false) (h2 : Go.Proofs.ltOf cmpP y x = false) : x = y := by
  rw [lt_cmpP, lex_not] at *
  exact P2.eq_of (by omega) (by omega)

def sortP (l : List P2) : List P2 := l.mergeSort fun x y => !(Go.Proofs.ltOf cmpP y x)
theorem sortP_len (l : List P2) : (sortP l).length = l.length := List.length_mergeSort _
theorem sortP_perm (l : List P2) : (sortP l).Perm l := List.mergeSort_perm _ _
theorem sortP_sorted (l : List P2) : (sortP l).Pairwise fun x y => lexLess y x = false := by
  have := List.pairwise_mergeSort (le := fun x y => !(Go.Proofs.ltOf cmpP y x)) (fun a b c h1 h2 => by
    simp only [Bool.not_eq_true', lt_cmpP, lex_not] at *; omega) (fun a b => by
    simp only [Bool.or_eq_true, Bool.not_eq_true', lt_cmpP, lex_not]; omega) l
  refine this.imp (fun h => ?_)
  simpa [lt_cmpP] using h

/-- The cells of a row of points. -/
theorem row_cells {w : World} {b : Nat} : ∀ {l : List P2} {o : Nat} {F : List Nat}, RepRow w b 2 o (l.map P2.pv) F → ∀ i x, l[i]? = some x → w.cell? ⟨b, o + i * 2, none⟩ = some (.int .i64 x.x) ∧ w.cell? ⟨b, o + i * 2 + 1, none⟩ = some (.int .i64 x.y)
  | l, o, F, h, i, x, hx => by
    obtain ⟨_, G, hc, _⟩ := h.get (i := i) (x := P2.pv x) (by rw [List.getElem?_map, hx]; rfl)
    have hc : RepCells w b (o + i * 2) [i64 x.x, i64 x.y] G := hc
    cases hc with
    | cons c1 _ r1 t =>
      cases r1
      cases t with
      | cons c2 _ r2 t => cases r2; exact ⟨c1, c2⟩

theorem cells_row {w : World} {b : Nat} : ∀ {l : List P2} {o : Nat}, (∀ i x, l[i]? = some x → w.cell? ⟨b, o + i * 2, none⟩ = some (.int .i64 x.x) ∧ w.cell? ⟨b, o + i * 2 + 1, none⟩ = some (.int .i64 x.y)) → RepRow w b 2 o (l.map P2.pv) []
  | [], o, _ => .nil _ _ _
  | x :: l, o, h => by
    have h0 := h 0 x rfl
    refine .cons (F := []) (G := []) rfl ?_ (cells_row (l := l) (o := o + 2) (fun i y hy => ?_))
    · have c1 := h0.1
      have c2 := h0.2
      rw [Nat.zero_mul, Nat.add_zero] at c1 c2
      exact .cons (F := []) (G := []) c1 rfl (.val _ rfl) (.cons (F := []) (G := []) c2 rfl (.val _ rfl) (.nil _ _))
    · have := h (i + 1) y (by simpa using hy)
      rw [show o + (i + 1) * 2 = o + 2 + i * 2 by omega] at this
      exact this

theorem flat_get (l : List P2) (i : Nat) (hi : i < l.length) : (Go.Sort.flatK encP 2 l.toArray)[i * 2]! = .int .i64 l[i].x ∧ (Go.Sort.flatK encP 2 l.toArray)[i * 2 + 1]! = .int .i64 l[i].y := by
  have hg : l.toArray[i]! = l[i] := by simp [hi]
  constructor
  · rw [Go.Sort.get_flatK _ _ _ _ (by simp; omega), show i * 2 / 2 = i by omega, show i * 2 % 2 = 0 by omega, hg]; rfl
  · rw [Go.Sort.get_flatK _ _ _ _ (by simp; omega), show (i * 2 + 1) / 2 = i by omega, show (i * 2 + 1) % 2 = 1 by omega, hg]; rfl

theorem holds_iff {w : World} {b o : Nat} {l : List P2} {c : Array Value} {e : TypeId} (hh : w.heap[b]? = some (.cells c e (0, 0))) : Go.Sort.HoldsK encP 2 w b o l.toArray ↔ ∀ i x, l[i]? = some x → w.cell? ⟨b, o + i * 2, none⟩ = some (.int .i64 x.x) ∧ w.cell? ⟨b, o + i * 2 + 1, none⟩ = some (.int .i64 x.y) := by
  have hfr : ∀ j, w.frozen? ⟨b, j, none⟩ = false := fun j => by simp [World.frozen?, hh]
  constructor
  · intro h i x hx
    obtain ⟨hi, rfl⟩ := List.getElem?_eq_some_iff.1 hx
    obtain ⟨f1, f2⟩ := flat_get l i hi
    have h1 := (h (i * 2) (by simp; omega)).1
    have h2 := (h (i * 2 + 1) (by simp; omega)).1
    rw [f1] at h1
    rw [f2] at h2
    exact ⟨h1, h2⟩
  · intro h j hj
    refine ⟨?_, hfr _⟩
    have hj' : j < l.length * 2 := by simpa using hj
    have hi : j / 2 < l.length := by omega
    obtain ⟨f1, f2⟩ := flat_get l (j / 2) hi
    obtain ⟨h1, h2⟩ := h (j / 2) _ (List.getElem?_eq_getElem hi)
    rcases (show j % 2 = 0 ∨ j % 2 = 1 by omega) with e | e
    · have e' : j = j / 2 * 2 := by omega
      rw [e', f1]; exact h1
    · have e' : j = j / 2 * 2 + 1 := by omega
      rw [e', f2]; exact h2

theorem putRow_at {enc : Value → Value} {w : World} {b o : Nat} {d : Array Value} {c : Array Value} {e : TypeId} (hh : w.heap[b]? = some (.cells c e (0, 0))) : (Go.Sort.putRow enc w b o d).heap[b]? = some (.cells (Go.Sort.putCells enc o d c) e (0, 0)) := by
  simp [Go.Sort.putRow, Go.Sort.mapBlock, Array.getElem?_modify, hh, Go.Sort.onCells]
theorem putRow_other {enc : Value → Value} {w : World} {b o : Nat} {d : Array Value} {k : Nat} (hk : k ≠ b) : (Go.Sort.putRow enc w b o d).heap[k]? = w.heap[k]? := by
  simp [Go.Sort.putRow, Go.Sort.mapBlock, Array.getElem?_modify, Ne.symm hk]
theorem grow_old {w : World} {os : Array Obj} {k : Nat} (hk : k < w.heap.size) : (Go.Sort.grow w os).heap[k]? = w.heap[k]? := by
  show (w.heap ++ os)[k]? = _
  exact Array.getElem?_append_left hk
theorem putCells_out {enc : Value → Value} {o : Nat} {d c : Array Value} {j : Nat} (hj : j < o ∨ o + d.size ≤ j) : (Go.Sort.putCells enc o d c)[j]? = c[j]? := by
  simp only [Go.Sort.putCells, Array.getElem?_mapIdx]
  cases c[j]? with
  | none => rfl
  | some x => simp only [Option.map_some]; rw [if_neg (by omega)]

theorem c_sortFunc : Callable Try.prog 102 := ⟨_, Try.func102, rfl, by kernel_rfl⟩

theorem d_sortFunc {es : List PV} {l : List P2} (hes : es = l.map P2.pv) (hb : l.length ≤ 1048576) : Does Try.prog 102 [.sl es, .fn 103 []] (.tup []) [.sl ((sortP l).map P2.pv)] := by
  intro w vs Fs hok
  have hio : inout 102 = [0] := rfl
  have hsz : ioSz 102 = 2 := rfl
  have hlen : es.length = l.length := by simp [hes]
  obtain ⟨v0, v1, rfl⟩ : ∃ v0 v1, vs = [v0, v1] := by
    have := hok.len
    match vs, this with
    | [a, b], _ => exact ⟨a, b, rfl⟩
  obtain ⟨F0, F1, rfl⟩ : ∃ F0 F1, Fs = [F0, F1] := by
    have := hok.lenF
    match Fs, this with
    | [a, b], _ => exact ⟨a, b, rfl⟩
  obtain ⟨hr1, _, _⟩ := hok.rep 1 _ v1 F1 rfl rfl rfl (by rw [hio]; simp)
  have hv1 : v1 = .func (.func 103) #[] #[] := by
    cases hr1 with
    | fn h => cases h; rfl
  subst hv1
  obtain ⟨es', a, cap, e1, rfl, hcap, hlent⟩ := hok.lent 0 _ v0 rfl rfl (by rw [hio]; simp)
  cases e1
  rw [hsz] at hlent
  have hres : ∀ w' : World, ∃ N : List Nat, N.Nodup ∧ (∀ b ∈ N, w.heap.size ≤ b ∧ b < w'.heap.size) ∧ RClS w' (fun p o l v => p ∈ inout 102 ∧ ∃ u es0, [Value.slice a es.length cap, .func (.func 103) #[] #[]][p]? = some u ∧ [PV.sl es, .fn 103 []][p]? = some (.sl es0) ∧ o + l ≤ es0.length ∧ ViewOf w' (ioSz 102) u es0.length o l v)
      (fun b => b < w'.heap.size ∧ b ∉ N ∧ (w.heap.size ≤ b ∨ Feet 102 [Value.slice a es.length cap, .func (.func 103) #[] #[]] [F0, F1] b)) (.tup []) (.tuple #[]) N := fun w' => ⟨[], by simp, by simp, [], rfl, .nil⟩
  by_cases hl : l = []
  · subst hl
    subst hes
    have h := AnyF.slices_SortFunc_none Try.sortPt a cap (.func (.func 103) #[] #[]) w
    refine Calls.mono h (fun e w' hh => ?_)
    obtain ⟨rfl, rfl⟩ := hh
    refine ⟨.tuple #[], rfl, ⟨hres _, ⟨by rw [hio]; rfl, fun i k out r u h1 h2 h3 h4 => ?_⟩, fun b _ _ => rfl, Nat.le_refl _, rfl, TapeLe.rfl', rfl⟩⟩
    rw [hio] at h1
    match i, h1, h2 with
    | 0, h1, h2 =>
      cases h1; cases h2; cases h3; cases h4
      have h0 : sortP [] = [] := List.eq_nil_of_length_eq_zero (by rw [sortP_len]; rfl)
      refine ⟨[], [], rfl, by rw [h0]; rfl, rfl, fun b o l cap' hv hc => ?_⟩
      cases hv
      obtain ⟨b', o', c, e, e4, h5, h6, h7⟩ := hlent hc
      cases e4
      exact ⟨.nil _ _ _, c, c, e, h5, h5, rfl, fun _ _ => rfl⟩
  · have hne : 0 < l.length := List.length_pos_iff.2 hl
    have hc0 : cap ≠ 0 := by omega
    obtain ⟨b, o, c, e, rfl, hh, hroom, hrow⟩ := hlent hc0
    have hblk : b < w.heap.size := (Array.getElem?_eq_some_iff.1 hh).1
    have hH : Go.Sort.HoldsK encP 2 w b o l.toArray := (holds_iff hh).2 (fun i x hx => row_cells (by rw [← hes]; exact hrow) i x hx)
    have hls : l.toArray.size = es.length := by simp [hlen]
    have h := AnyQ.slices_SortFunc_total Try.sortPt 2 Try.isAgg53 Try.sizeOf53 encP (fun _ => rfl) (fun x v hv => by simp [encP] at hv; rcases hv with rfl | rfl <;> rfl) cmpP swo_cmpP 103 #[] b o cap l.toArray w
      (enters_of Try.func103 (by kernel_rfl) rfl) (fun m os dk _ x y => calls_comparePts x y _) hH hblk (by simp; omega) tot_cmpP
    rw [hls] at h
    refine Calls.mono h (fun ex w' hh' => ?_)
    obtain ⟨rfl, n, os, rfl⟩ := hh'
    have hsl : ((sortP l).toArray).size = l.toArray.size := by simp [sortP_len]
    show ∃ v, _ ∧ Post _ _ _ _ _ w (Go.Proofs.sortWorldK encP 2 w b o n (sortP l).toArray os) v _ _
    generalize hw' : Go.Proofs.sortWorldK encP 2 w b o n (sortP l).toArray os = w'
    have hput : w' = Go.Sort.grow (Go.Sort.putRow id (Go.Sort.ahead w n) b o (Go.Sort.flatK encP 2 (sortP l).toArray)) os := hw'.symm
    have hold : ∀ k, k < w.heap.size → w'.heap[k]? = (Go.Sort.putRow id (Go.Sort.ahead w n) b o (Go.Sort.flatK encP 2 (sortP l).toArray)).heap[k]? := fun k hk => by
      rw [hput]; exact grow_old (by rw [Go.Sort.size_putRow]; exact hk)
    have hat : w'.heap[b]? = some (.cells (Go.Sort.putCells id o (Go.Sort.flatK encP 2 (sortP l).toArray) c) e (0, 0)) := by
      rw [hold b hblk]; exact putRow_at hh
    have hH' : Go.Sort.HoldsK encP 2 w' b o (sortP l).toArray := by
      rw [hput]
      exact Go.Sort.holdsK_grow encP 2 _ os b o _ (by rw [Go.Sort.size_putRow]; exact hblk) (Go.Sort.holdsK_putRowK encP 2 _ b o l.toArray _ (Go.Sort.holdsK_ahead encP 2 w n b o _ hH) hsl)
    have hrow' : RepRow w' b 2 o ((sortP l).map P2.pv) [] := cells_row ((holds_iff hat).1 hH')
    refine ⟨.tuple #[], rfl, ⟨hres _, ⟨by rw [hio]; rfl, fun i k out r u h1 h2 h3 h4 => ?_⟩, fun k hk hno => ?_, ?_, ?_, ?_, ?_⟩⟩
    · rw [hio] at h1
      match i, h1, h2 with
      | 0, h1, h2 =>
        cases h1; cases h2; cases h3; cases h4
        refine ⟨es, _, rfl, rfl, by simp [sortP_len, hlen], fun b' o' l' cap' hv hc => ?_⟩
        cases hv
        refine ⟨by rw [hsz]; exact hrow', c, _, e, hh, hat, by simp [Go.Sort.putCells], fun j hj => ?_⟩
        rw [hsz] at hj
        exact putCells_out (by simp [sortP_len]; omega)
    · rw [hold k hk]
      have hkb : k ≠ b := fun e => hno 0 _ (by rw [hio]; simp) rfl (by subst e; simp [blockOf, hc0])
      exact putRow_other hkb
    · rw [hput]; simp [Go.Sort.grow, Go.Sort.putRow, Go.Sort.mapBlock, Go.Sort.ahead]
    · rw [hput]; rfl
    · rw [hput]; exact ⟨rfl, by show w.drawn ≤ w.drawn + n; omega⟩
    · rw [hput]; rfl

end Go.VAI
