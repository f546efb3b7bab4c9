/- CropOf of the program, and the law. -/
import Derived.Test.YtlmclblniflifaaI
namespace Go.VAI
open Go.Proofs
set_option maxRecDepth 100000

theorem c_impl_areBytes_1 : Callable Try.prog 90 := ⟨_, Try.func90, rfl, by kernel_rfl⟩
theorem d_impl_areBytes_1 {x : Int} : Does Try.prog 90 [i64 x] (.pv (bl (!(okByte x)))) [] := by
  refine does_of hT hM Try.func90 rfl (by kernel_rfl) rfl rfl rfl (fun A K hA hK => ?_)
  cbv
  repeat' (first
    | (refine Ar.nn_ hA (by omega) ?_; cbv)
    | (refine Ar.toN_ hA (fun _ _ => ?_); cbv)
    | (refine Ar.notT_ hA ?_; cbv)
    | (refine Ar.notF_ hA ?_; cbv)
    | (refine Ar.lss_ hA (fun _ => ?_) (fun _ => ?_) <;> cbv)
    | (refine Ar.leq_ hA (fun _ => ?_) (fun _ => ?_) <;> cbv)
    | (refine Ar.gtr_ hA (fun _ => ?_) (fun _ => ?_) <;> cbv)
    | (refine Ar.geq_ hA (fun _ => ?_) (fun _ => ?_) <;> cbv)
    | (refine Ar.eql_ hA (fun _ => ?_) (fun _ => ?_) <;> cbv)
    | (refine Ar.neq_ hA (fun _ => ?_) (fun _ => ?_) <;> cbv)
    | (refine Ar.add_ hA (by omega) (fun _ _ => ?_); cbv)
    | (refine Ar.sub_ hA (by omega) (fun _ _ => ?_); cbv)
    | (refine Ar.neg_ hA (by omega) (fun _ _ => ?_); cbv)
    | (refine Ar.mulB hA 2000 2000 (by omega) (by omega) (by omega) (fun _ _ _ _ => ?_); cbv)
    | (refine Ar.mulB hA 3000000000 3000000000 (by omega) (by omega) (by omega) (fun _ _ _ _ => ?_); cbv)
    | (refine Ar.nz_ hA (by omega) ?_; cbv)
    | (refine Ar.rem_ hA (by omega) (fun _ _ => ?_); cbv)
    | (refine Ar.quo_ hA (by omega) (fun _ _ => ?_); cbv)
    | (refine Ar.mx_ hA (fun _ _ => ?_); cbv)
    | (refine Ar.mn_ hA (fun _ _ => ?_); cbv)
    | (refine Ar.len_ hA (fun _ _ _ => ?_); cbv)
    | (refine Ar.lenN_ hA (fun _ _ => ?_); cbv)
    | (refine Ar.bneq_ hA (fun _ => ?_) (fun _ => ?_) <;> cbv)
    | (refine Ar.beq_ hA (fun _ => ?_) (fun _ => ?_) <;> cbv)
    | (refine Ar.ofN_ hA (fun _ _ _ => ?_); cbv)
    | (refine Ar.callT hA c_impl_within (d_impl_within) rfl (fun _ => ?_) (fun _ => ?_) <;> cbv))
  all_goals exact hK _ _ (by simp_all [okByte]; try omega) rfl

theorem c_slices_IndexFunc_int_int : Callable Try.prog 93 := ⟨_, Try.func93, rfl, by kernel_rfl⟩
theorem d_slices_IndexFunc_int_int {es : List PV} {l : List Int} {q : Int → Bool} (hes : es = l.map i64) (hb : l.length ≤ 1048576) (hq : ∀ p ∈ l, Does Try.prog 90 [i64 p] (.pv (bl (q p))) []) : Does Try.prog 93 [.sl es, .fn 90 []] (.pv (i64 (firstAt q l))) [] := by
  refine does_of hT hM Try.func93 rfl (by kernel_rfl) rfl rfl rfl (fun A K hA hK => ?_)
  have hlen : es.length = l.length := by simp [hes]
  cbv
  refine Ar.len_ hA (fun n hn hn' => ?_)
  cbv
  refine Ar.loop_ hA (α := Int) (fun i => (n - i).toNat) (fun i => 0 ≤ i ∧ i ≤ n ∧ ∀ p ∈ l.take i.toNat, q p = false) 19 (fun i => [(0, .pv (.sl es) []), (1, .pv (.fn 90 []) []), (7, .pv (i64 n) []), (8, .pv (i64 i) [])]) (fun _ => []) 0 ⟨rfl, ⟨rfl, rfl, rfl, rfl, trivial⟩, trivial⟩ ⟨by omega, by omega, by simp⟩ ?_
  intro i s f ⟨h1, h2, h3⟩
  cbv
  refine Ar.lss_ hA (fun h => ?_) (fun h => ?_)
  · cbv
    refine Ar.nn_ hA (by omega) ?_
    cbv
    refine Ar.toN_ hA (fun j hj => ?_)
    cbv
    obtain ⟨p, hp⟩ : ∃ p, l[j]? = some p := ⟨l[j]'(by omega), List.getElem?_eq_getElem _⟩
    refine Ar.idx_ hA (x := i64 p) (by simp [hes, hp, P2.pv]) ?_
    cbv
    refine Ar.callT hA c_impl_areBytes_1 (hq p (List.mem_of_getElem? hp)) rfl (fun hb => ?_) (fun hb => ?_)
    · cbv
      refine hK _ _ ?_ rfl
      rw [firstAt_some hp hb (by rw [hj]; exact h3)]
      congr 3; omega
    · cbv
      refine Ar.add_ hA (by omega) (fun k hk => ?_)
      cbv
      refine ⟨k, by omega, ⟨by omega, by omega, ?_⟩, rfl, ⟨rfl, rfl, rfl, rfl, trivial⟩, trivial⟩
      rw [show k.toNat = j + 1 by omega, List.take_add_one, hp]
      intro q' hq'
      simp only [Option.toList_some, List.mem_append, List.mem_singleton] at hq'
      rcases hq' with hq' | rfl
      · exact h3 q' (by rw [← hj]; exact hq')
      · exact hb
  · cbv
    refine hK _ _ ?_ rfl
    rw [List.take_of_length_le (by omega)] at h3
    rw [firstAt_none h3]

theorem c_slices_ContainsFunc_int_int : Callable Try.prog 89 := ⟨_, Try.func89, rfl, by kernel_rfl⟩
theorem d_slices_ContainsFunc_int_int {es : List PV} {l : List Int} {q : Int → Bool} (hes : es = l.map i64) (hb : l.length ≤ 1048576) (hq : ∀ p ∈ l, Does Try.prog 90 [i64 p] (.pv (bl (q p))) []) : Does Try.prog 89 [.sl es, .fn 90 []] (.pv (bl (l.any q))) [] := by
  refine does_of hT hM Try.func89 rfl (by kernel_rfl) rfl rfl rfl (fun A K hA hK => ?_)
  cbv
  refine Ar.callI hA c_slices_IndexFunc_int_int (d_slices_IndexFunc_int_int hes hb hq) rfl (fun r hr => ?_)
  cbv
  have := firstAt_any (q := q) (l := l)
  refine Ar.geq_ hA (fun h => ?_) (fun h => ?_)
  · cbv
    exact hK _ _ (by rw [← this]; simp; omega) rfl
  · cbv
    exact hK _ _ (by rw [← this]; simp; omega) rfl

theorem c_impl_areBytes : Callable Try.prog 77 := ⟨_, Try.func77, rfl, by kernel_rfl⟩
theorem d_impl_areBytes {es : List PV} {l : List Int} (hes : es = l.map i64) (hb : l.length ≤ 1048576) : Does Try.prog 77 [.sl es] (.pv (bl (l.all okByte))) [] := by
  refine does_of hT hM Try.func77 rfl (by kernel_rfl) rfl rfl rfl (fun A K hA hK => ?_)
  cbv
  refine Ar.callT hA c_slices_ContainsFunc_int_int (d_slices_ContainsFunc_int_int (q := fun p => !okByte p) hes hb (fun p _ => d_impl_areBytes_1)) rfl (fun h => ?_) (fun h => ?_)
  · cbv
    repeat' (first
      | (refine Ar.nn_ hA (by omega) ?_; cbv)
      | (refine Ar.toN_ hA (fun _ _ => ?_); cbv)
      | (refine Ar.notT_ hA ?_; cbv)
      | (refine Ar.notF_ hA ?_; cbv)
      | (refine Ar.lss_ hA (fun _ => ?_) (fun _ => ?_) <;> cbv)
      | (refine Ar.leq_ hA (fun _ => ?_) (fun _ => ?_) <;> cbv)
      | (refine Ar.gtr_ hA (fun _ => ?_) (fun _ => ?_) <;> cbv)
      | (refine Ar.geq_ hA (fun _ => ?_) (fun _ => ?_) <;> cbv)
      | (refine Ar.eql_ hA (fun _ => ?_) (fun _ => ?_) <;> cbv)
      | (refine Ar.neq_ hA (fun _ => ?_) (fun _ => ?_) <;> cbv)
      | (refine Ar.add_ hA (by omega) (fun _ _ => ?_); cbv)
      | (refine Ar.sub_ hA (by omega) (fun _ _ => ?_); cbv)
      | (refine Ar.neg_ hA (by omega) (fun _ _ => ?_); cbv)
      | (refine Ar.mulB hA 2000 2000 (by omega) (by omega) (by omega) (fun _ _ _ _ => ?_); cbv)
      | (refine Ar.mulB hA 3000000000 3000000000 (by omega) (by omega) (by omega) (fun _ _ _ _ => ?_); cbv)
      | (refine Ar.nz_ hA (by omega) ?_; cbv)
      | (refine Ar.rem_ hA (by omega) (fun _ _ => ?_); cbv)
      | (refine Ar.quo_ hA (by omega) (fun _ _ => ?_); cbv)
      | (refine Ar.mx_ hA (fun _ _ => ?_); cbv)
      | (refine Ar.mn_ hA (fun _ _ => ?_); cbv)
      | (refine Ar.len_ hA (fun _ _ _ => ?_); cbv)
      | (refine Ar.lenN_ hA (fun _ _ => ?_); cbv)
      | (refine Ar.bneq_ hA (fun _ => ?_) (fun _ => ?_) <;> cbv)
      | (refine Ar.beq_ hA (fun _ => ?_) (fun _ => ?_) <;> cbv)
      | (refine Ar.ofN_ hA (fun _ _ _ => ?_); cbv)
)
    exact hK _ _ (by have : l.all okByte = false := by (rw [List.all_eq_not_any_not, h]; rfl)
                     rw [this]) rfl
  · cbv
    repeat' (first
      | (refine Ar.nn_ hA (by omega) ?_; cbv)
      | (refine Ar.toN_ hA (fun _ _ => ?_); cbv)
      | (refine Ar.notT_ hA ?_; cbv)
      | (refine Ar.notF_ hA ?_; cbv)
      | (refine Ar.lss_ hA (fun _ => ?_) (fun _ => ?_) <;> cbv)
      | (refine Ar.leq_ hA (fun _ => ?_) (fun _ => ?_) <;> cbv)
      | (refine Ar.gtr_ hA (fun _ => ?_) (fun _ => ?_) <;> cbv)
      | (refine Ar.geq_ hA (fun _ => ?_) (fun _ => ?_) <;> cbv)
      | (refine Ar.eql_ hA (fun _ => ?_) (fun _ => ?_) <;> cbv)
      | (refine Ar.neq_ hA (fun _ => ?_) (fun _ => ?_) <;> cbv)
      | (refine Ar.add_ hA (by omega) (fun _ _ => ?_); cbv)
      | (refine Ar.sub_ hA (by omega) (fun _ _ => ?_); cbv)
      | (refine Ar.neg_ hA (by omega) (fun _ _ => ?_); cbv)
      | (refine Ar.mulB hA 2000 2000 (by omega) (by omega) (by omega) (fun _ _ _ _ => ?_); cbv)
      | (refine Ar.mulB hA 3000000000 3000000000 (by omega) (by omega) (by omega) (fun _ _ _ _ => ?_); cbv)
      | (refine Ar.nz_ hA (by omega) ?_; cbv)
      | (refine Ar.rem_ hA (by omega) (fun _ _ => ?_); cbv)
      | (refine Ar.quo_ hA (by omega) (fun _ _ => ?_); cbv)
      | (refine Ar.mx_ hA (fun _ _ => ?_); cbv)
      | (refine Ar.mn_ hA (fun _ _ => ?_); cbv)
      | (refine Ar.len_ hA (fun _ _ _ => ?_); cbv)
      | (refine Ar.lenN_ hA (fun _ _ => ?_); cbv)
      | (refine Ar.bneq_ hA (fun _ => ?_) (fun _ => ?_) <;> cbv)
      | (refine Ar.beq_ hA (fun _ => ?_) (fun _ => ?_) <;> cbv)
      | (refine Ar.ofN_ hA (fun _ _ _ => ?_); cbv)
)
    exact hK _ _ (by have : l.all okByte = true := by (rw [List.all_eq_not_any_not, h]; rfl)
                     rw [this]) rfl

theorem c_impl_CropOf : Callable Try.prog 45 := ⟨_, Try.func45, rfl, by kernel_rfl⟩
theorem d_impl_CropOf {es : List PV} {l : List Int} {wx wy ww wh px py pw ph : Int} (hes : es = l.map i64) (hb : l.length ≤ 1048576) : Does Try.prog 45 [.agg [i64 wx, i64 wy, i64 ww, i64 wh], .sl es, .agg [i64 px, i64 py, i64 pw, i64 ph]] (.tup [.row ((cropR wx wy ww wh l px py pw ph).map i64) 1 .free, .pv (bl (goodCrop wx wy ww wh l px py pw ph))]) [] := by
  refine does_of hT hM Try.func45 rfl (by kernel_rfl) rfl rfl rfl (fun A K hA hK => ?_)
  have hlen : es.length = l.length := by simp [hes]
  have hwide : ∀ x ∈ es, (leaves x).length = 1 ∧ (false = true → isFree x = true) := by
    rw [hes]; intro x hx; obtain ⟨y, _, rfl⟩ := List.mem_map.1 hx; exact ⟨rfl, fun h => by cases h⟩
  have hon := ofNat_eq l.length
  cbv
  refine Ar.callT hA c_impl_GoodWindow d_impl_GoodWindow rfl (fun h1 => ?_) (fun h1 => ?_)
  rotate_left
  · cbv
    repeat' (first
      | (refine Ar.nn_ hA (by omega) ?_; cbv)
      | (refine Ar.toN_ hA (fun _ _ => ?_); cbv)
      | (refine Ar.notT_ hA ?_; cbv)
      | (refine Ar.notF_ hA ?_; cbv)
      | (refine Ar.lss_ hA (fun _ => ?_) (fun _ => ?_) <;> cbv)
      | (refine Ar.leq_ hA (fun _ => ?_) (fun _ => ?_) <;> cbv)
      | (refine Ar.gtr_ hA (fun _ => ?_) (fun _ => ?_) <;> cbv)
      | (refine Ar.geq_ hA (fun _ => ?_) (fun _ => ?_) <;> cbv)
      | (refine Ar.eql_ hA (fun _ => ?_) (fun _ => ?_) <;> cbv)
      | (refine Ar.neq_ hA (fun _ => ?_) (fun _ => ?_) <;> cbv)
      | (refine Ar.add_ hA (by omega) (fun _ _ => ?_); cbv)
      | (refine Ar.sub_ hA (by omega) (fun _ _ => ?_); cbv)
      | (refine Ar.neg_ hA (by omega) (fun _ _ => ?_); cbv)
      | (refine Ar.mulB hA 2000 2000 (by omega) (by omega) (by omega) (fun _ _ _ _ => ?_); cbv)
      | (refine Ar.mulB hA 3000000000 3000000000 (by omega) (by omega) (by omega) (fun _ _ _ _ => ?_); cbv)
      | (refine Ar.nz_ hA (by omega) ?_; cbv)
      | (refine Ar.rem_ hA (by omega) (fun _ _ => ?_); cbv)
      | (refine Ar.quo_ hA (by omega) (fun _ _ => ?_); cbv)
      | (refine Ar.mx_ hA (fun _ _ => ?_); cbv)
      | (refine Ar.mn_ hA (fun _ _ => ?_); cbv)
      | (refine Ar.len_ hA (fun _ _ _ => ?_); cbv)
      | (refine Ar.lenN_ hA (fun _ _ => ?_); cbv)
      | (refine Ar.bneq_ hA (fun _ => ?_) (fun _ => ?_) <;> cbv)
      | (refine Ar.beq_ hA (fun _ => ?_) (fun _ => ?_) <;> cbv)
      | (refine Ar.ofN_ hA (fun _ _ _ => ?_); cbv)
)
    exact hK _ _ (by simp [cropR, goodCrop, h1]) rfl
  cbv
  refine Ar.notT_ hA ?_
  cbv
  refine Ar.callT hA c_impl_GoodWindow d_impl_GoodWindow rfl (fun h2 => ?_) (fun h2 => ?_)
  rotate_left
  · cbv
    repeat' (first
      | (refine Ar.nn_ hA (by omega) ?_; cbv)
      | (refine Ar.toN_ hA (fun _ _ => ?_); cbv)
      | (refine Ar.notT_ hA ?_; cbv)
      | (refine Ar.notF_ hA ?_; cbv)
      | (refine Ar.lss_ hA (fun _ => ?_) (fun _ => ?_) <;> cbv)
      | (refine Ar.leq_ hA (fun _ => ?_) (fun _ => ?_) <;> cbv)
      | (refine Ar.gtr_ hA (fun _ => ?_) (fun _ => ?_) <;> cbv)
      | (refine Ar.geq_ hA (fun _ => ?_) (fun _ => ?_) <;> cbv)
      | (refine Ar.eql_ hA (fun _ => ?_) (fun _ => ?_) <;> cbv)
      | (refine Ar.neq_ hA (fun _ => ?_) (fun _ => ?_) <;> cbv)
      | (refine Ar.add_ hA (by omega) (fun _ _ => ?_); cbv)
      | (refine Ar.sub_ hA (by omega) (fun _ _ => ?_); cbv)
      | (refine Ar.neg_ hA (by omega) (fun _ _ => ?_); cbv)
      | (refine Ar.mulB hA 2000 2000 (by omega) (by omega) (by omega) (fun _ _ _ _ => ?_); cbv)
      | (refine Ar.mulB hA 3000000000 3000000000 (by omega) (by omega) (by omega) (fun _ _ _ _ => ?_); cbv)
      | (refine Ar.nz_ hA (by omega) ?_; cbv)
      | (refine Ar.rem_ hA (by omega) (fun _ _ => ?_); cbv)
      | (refine Ar.quo_ hA (by omega) (fun _ _ => ?_); cbv)
      | (refine Ar.mx_ hA (fun _ _ => ?_); cbv)
      | (refine Ar.mn_ hA (fun _ _ => ?_); cbv)
      | (refine Ar.len_ hA (fun _ _ _ => ?_); cbv)
      | (refine Ar.lenN_ hA (fun _ _ => ?_); cbv)
      | (refine Ar.bneq_ hA (fun _ => ?_) (fun _ => ?_) <;> cbv)
      | (refine Ar.beq_ hA (fun _ => ?_) (fun _ => ?_) <;> cbv)
      | (refine Ar.ofN_ hA (fun _ _ _ => ?_); cbv)
)
    exact hK _ _ (by simp [cropR, goodCrop, h2]) rfl
  have hw := h1
  have hp := h2
  unfold okW at hw hp
  simp only [decide_eq_true_eq] at hw hp
  cbv
  refine Ar.notT_ hA ?_
  cbv
  refine Ar.len_ hA (fun n hn hn' => ?_)
  cbv
  refine Ar.mulB hA 2000 2000 (by omega) (by omega) (by omega) (fun t0 ht0 _ _ => ?_)
  cbv
  refine Ar.neq_ hA (fun h3 => ?_) (fun h3 => ?_)
  · cbv
    have : goodCrop wx wy ww wh l px py pw ph = false := by
      unfold goodCrop
      rw [show decide (Int.ofNat l.length = ww * wh) = false from decide_eq_false (by rw [ofNat_eq]; omega)]
      simp
    exact hK _ _ (by rw [cropR, this]; rfl) rfl
  have hn0 : Int.ofNat l.length = ww * wh := by rw [ofNat_eq]; omega
  have hnn : 0 ≤ ww * wh ∧ (ww * wh).toNat = l.length := by rw [← hn0, ofNat_eq]; omega
  cbv
  refine Ar.callT hA c_impl_areBytes (d_impl_areBytes hes hb) rfl (fun h4 => ?_) (fun h4 => ?_)
  rotate_left
  · cbv
    repeat' (first
      | (refine Ar.nn_ hA (by omega) ?_; cbv)
      | (refine Ar.toN_ hA (fun _ _ => ?_); cbv)
      | (refine Ar.notT_ hA ?_; cbv)
      | (refine Ar.notF_ hA ?_; cbv)
      | (refine Ar.lss_ hA (fun _ => ?_) (fun _ => ?_) <;> cbv)
      | (refine Ar.leq_ hA (fun _ => ?_) (fun _ => ?_) <;> cbv)
      | (refine Ar.gtr_ hA (fun _ => ?_) (fun _ => ?_) <;> cbv)
      | (refine Ar.geq_ hA (fun _ => ?_) (fun _ => ?_) <;> cbv)
      | (refine Ar.eql_ hA (fun _ => ?_) (fun _ => ?_) <;> cbv)
      | (refine Ar.neq_ hA (fun _ => ?_) (fun _ => ?_) <;> cbv)
      | (refine Ar.add_ hA (by omega) (fun _ _ => ?_); cbv)
      | (refine Ar.sub_ hA (by omega) (fun _ _ => ?_); cbv)
      | (refine Ar.neg_ hA (by omega) (fun _ _ => ?_); cbv)
      | (refine Ar.mulB hA 2000 2000 (by omega) (by omega) (by omega) (fun _ _ _ _ => ?_); cbv)
      | (refine Ar.mulB hA 3000000000 3000000000 (by omega) (by omega) (by omega) (fun _ _ _ _ => ?_); cbv)
      | (refine Ar.nz_ hA (by omega) ?_; cbv)
      | (refine Ar.rem_ hA (by omega) (fun _ _ => ?_); cbv)
      | (refine Ar.quo_ hA (by omega) (fun _ _ => ?_); cbv)
      | (refine Ar.mx_ hA (fun _ _ => ?_); cbv)
      | (refine Ar.mn_ hA (fun _ _ => ?_); cbv)
      | (refine Ar.len_ hA (fun _ _ _ => ?_); cbv)
      | (refine Ar.lenN_ hA (fun _ _ => ?_); cbv)
      | (refine Ar.bneq_ hA (fun _ => ?_) (fun _ => ?_) <;> cbv)
      | (refine Ar.beq_ hA (fun _ => ?_) (fun _ => ?_) <;> cbv)
      | (refine Ar.ofN_ hA (fun _ _ _ => ?_); cbv)
)
    exact hK _ _ (by simp [cropR, goodCrop, h4]) rfl
  have hg0 : goodCrop wx wy ww wh l px py pw ph = decide (wx ≤ px ∧ wy ≤ py ∧ px + pw ≤ wx + ww ∧ py + ph ≤ wy + wh) := by
    unfold goodCrop
    rw [h1, h2, h4, decide_eq_true hn0]; rfl
  clear hn0
  cbv
  refine Ar.notT_ hA ?_
  cbv
  refine Ar.sub_ hA (by omega) (fun dx hdx => ?_)
  cbv
  refine Ar.sub_ hA (by omega) (fun dy hdy => ?_)
  cbv
  have bad : ¬ (wx ≤ px ∧ wy ≤ py ∧ px + pw ≤ wx + ww ∧ py + ph ≤ wy + wh) → K (RS.tup [RS.row [] 1 RU.free, RS.pv (PV.val (Value.bool false))]) [] := by
    intro hbad
    exact hK _ _ (by rw [cropR, hg0, decide_eq_false hbad]; rfl) rfl
  refine Ar.lss_ hA (fun h5 => ?_) (fun h5 => ?_)
  · cbv; exact bad (by omega)
  cbv
  refine Ar.lss_ hA (fun h6 => ?_) (fun h6 => ?_)
  · cbv; exact bad (by omega)
  cbv
  refine Ar.add_ hA (by omega) (fun u1 hu1 => ?_)
  cbv
  refine Ar.gtr_ hA (fun h7 => ?_) (fun h7 => ?_)
  · cbv; exact bad (by omega)
  cbv
  refine Ar.add_ hA (by omega) (fun u2 hu2 => ?_)
  cbv
  refine Ar.gtr_ hA (fun h8 => ?_) (fun h8 => ?_)
  · cbv; exact bad (by omega)
  have hg : goodCrop wx wy ww wh l px py pw ph = true := by rw [hg0]; exact decide_eq_true (by omega)
  clear bad
  cbv
  refine Ar.loop_ hA (α := Int × List PV) (fun x => (ph - x.1).toNat) (fun (i, r) => 0 ≤ i ∧ i ≤ ph ∧ r = (cropF l ww dx dy pw i.toNat).map i64) 95 (fun (i, r) => [(1, .pv (.sl es) []), (3, .ref 3 0), (5, .ref 5 0), (8, .pv (i64 dx) []), (9, .pv (i64 dy) []), (10, .own 70 none), (72, .pv (i64 ph) []), (73, .pv (i64 i) [])]) (fun (i, r) => [(3, some (.cell [.pv (i64 wx) [], .pv (i64 wy) [], .pv (i64 ww) [], .pv (i64 wh) []])), (5, some (.cell [.pv (i64 px) [], .pv (i64 py) [], .pv (i64 pw) [], .pv (i64 ph) []])), (70, some (.row r 1 .free false))]) (0, []) ⟨rfl, ⟨rfl, rfl, rfl, rfl, rfl, rfl, rfl, rfl, trivial⟩, rfl, rfl, rfl, trivial⟩ ⟨by omega, by omega, by simp [cropF]⟩ ?_
  intro ⟨i, r⟩ s f ⟨g1, g2, g3⟩
  cbv
  refine Ar.lss_ hA (fun h => ?_) (fun h => ?_)
  · have hoff := crop_off (a := dy + i) (W := ww) (h := wh) (by omega) (by omega) (by omega)
    rw [Int.mul_comm wh ww] at hoff
    have hrl : r.length ≤ 64 := by
      rw [g3, List.length_map]
      have := cropF_le (l := l) (W := ww) (dx := dx) (dy := dy) (pw := pw) (by omega) i.toNat
      omega
    cbv
    refine Ar.add_ hA (by omega) (fun a ha => ?_)
    cbv
    refine Ar.mulB hA 2000 2000 (by omega) (by omega) (by omega) (fun t1 ht1 _ _ => ?_)
    have ht1' : t1 = (dy + i) * ww := by rw [ht1, ha]
    cbv
    refine Ar.add_ hA (by omega) (fun at_ hat => ?_)
    have hstep := cropF_succ (l := l) (W := ww) (dx := dx) (dy := dy) (pw := pw) (i := i) (a := at_) (by omega) (by rw [hat, ht1'])
    cbv
    refine Ar.add_ hA (by omega) (fun end_ hend => ?_)
    cbv
    refine Ar.wid_ hA hwide ?_
    cbv
    refine Ar.lenN_ hA (fun n3 hn3 => ?_)
    cbv
    refine Ar.nn_ hA (by omega) ?_
    cbv
    refine Ar.toN_ hA (fun hi hhi => ?_)
    cbv
    refine Ar.nn_ hA (by omega) ?_
    cbv
    refine Ar.toN_ hA (fun lo hlo => ?_)
    cbv
    refine Ar.rng_ hA (by omega) ?_
    cbv
    refine Ar.row_ hA (fun part hpart => ?_)
    have hpart' : part = ((l.drop at_.toNat).take pw.toNat).map i64 := by
      rw [hpart]
      subst hA
      show List.take (hi - lo) (List.drop lo es) = _
      rw [hes, List.map_take, List.map_drop, show hi - lo = pw.toNat by omega, show lo = at_.toNat by omega]
    clear hpart
    cbv
    refine Ar.wid_ hA (by rw [hpart']; intro x hx; obtain ⟨y, _, rfl⟩ := List.mem_map.1 hx; exact ⟨rfl, fun _ => rfl⟩) ?_
    cbv
    refine Ar.app_ hA (fun r' hr' => ?_)
    cbv
    have hql : r'.length ≤ 73 := by
      rw [hr', hpart']
      simp only [List.length_append, List.length_map, List.length_take]
      omega
    refine Ar.fitsL_ hA (by omega) ?_
    cbv
    refine Ar.add_ hA (by omega) (fun i' hi' => ?_)
    cbv
    refine ⟨(i', r'), (by show (ph - i').toNat < (ph - i).toNat; omega), ⟨by omega, by omega, ?_⟩, rfl, ⟨rfl, rfl, rfl, rfl, rfl, rfl, rfl, rfl, trivial⟩, rfl, rfl, rfl, trivial⟩
    rw [hr', g3, hpart', hi', hstep, List.map_append]
  · cbv
    refine hK _ _ ?_ rfl
    rw [hg, cropR, hg, if_pos rfl, g3, show i = ph by omega, hdx, hdy]

theorem cropR_le {wx wy ww wh px py pw ph : Int} {l : List Int} : (cropR wx wy ww wh l px py pw ph).length ≤ 64 := by
  unfold cropR
  split
  · rename_i h
    have hp : okW px py pw ph = true := by
      unfold goodCrop at h
      simp only [Bool.and_eq_true] at h
      exact h.1.1.1.2
    unfold okW at hp
    simp only [decide_eq_true_eq] at hp
    have := cropF_le (l := l) (W := ww) (dx := px - wx) (dy := py - wy) (pw := pw) (by omega) ph.toNat
    omega
  · simp

theorem onFrom_pos {n : Nat} {k r : Int} (h : r = onFrom n k) (hk : 0 ≤ k) : 0 ≤ r := by unfold onFrom at h; omega

theorem c_laws_FnExactCropOf : Callable Try.prog 14 := ⟨_, Try.func14, rfl, by kernel_rfl⟩
theorem d_laws_FnExactCropOf {es : List PV} {l : List Int} {wx wy ww wh px py pw ph : Int} (_ : InR wx ∧ InR wy ∧ InR ww ∧ InR wh) (hes : es = l.map i64 ∧ l.length ≤ 9223372036854775807) (_ : InR px ∧ InR py ∧ InR pw ∧ InR ph) : Does Try.prog 14 [.agg [i64 wx, i64 wy, i64 ww, i64 wh], .sl es, .agg [i64 px, i64 py, i64 pw, i64 ph]] (.pv (bl true)) [] := by
  refine does_of hT hM Try.func14 rfl (by kernel_rfl) rfl rfl rfl (fun A K hA hK => ?_)
  obtain ⟨hes, hmax⟩ := hes
  have hlen : es.length = l.length := by simp [hes]
  have hcl := cropR_le (wx := wx) (wy := wy) (ww := ww) (wh := wh) (px := px) (py := py) (pw := pw) (ph := ph) (l := l)
  obtain ⟨C, hC⟩ : ∃ C, C = cropR wx wy ww wh l px py pw ph := ⟨_, rfl⟩
  have dS := fun (hb : l.length ≤ 1048576) => d_spec_CropOf (wx := wx) (wy := wy) (ww := ww) (wh := wh) (px := px) (py := py) (pw := pw) (ph := ph) hes hb
  have dI := fun (hb : l.length ≤ 1048576) => d_impl_CropOf (wx := wx) (wy := wy) (ww := ww) (wh := wh) (px := px) (py := py) (pw := pw) (ph := ph) hes hb
  rw [← hC] at dS dI hcl
  clear hC
  generalize hG : goodCrop wx wy ww wh l px py pw ph = G at dS dI
  clear hG
  obtain ⟨E, hE⟩ : ∃ E, E = C.map i64 := ⟨_, rfl⟩
  rw [← hE] at dS dI
  obtain ⟨M, hM⟩ : ∃ M, M = (countUp l.length 1).map i64 := ⟨_, rfl⟩
  obtain ⟨N, hN⟩ : ∃ N, N = (countUp C.length 1).map i64 := ⟨_, rfl⟩
  have m1 := fun (hb : l.length ≤ 1048576) => d_laws_markIntS (k := 1) hes hb (by omega)
  have m2 := d_laws_markIntS (k := 1) hE (by omega) (by omega)
  have m3 := d_laws_heldIntS (k := 1) hN (by omega) (by omega)
  have e1 := d_laws_eqIntS hE hE (by omega)
  have e2 := fun (hb : l.length ≤ 1048576) => d_laws_eqIntS hes hes hb
  rw [decide_eq_true rfl] at e1
  simp only [decide_eq_true rfl] at e2
  rw [← hM] at m1
  rw [← hN] at m2
  obtain ⟨u, hu⟩ : ∃ u, u = onFrom l.length 1 := ⟨_, rfl⟩
  obtain ⟨v, hv⟩ : ∃ v, v = onFrom C.length 1 := ⟨_, rfl⟩
  have hu0 := onFrom_pos hu (by omega)
  have hv0 := onFrom_pos hv (by omega)
  rw [← hu] at m1
  rw [← hv] at m2 m3
  clear hu hv hM hN hE
  cbv
  refine Ar.len_ hA (fun n hn hn' => ?_)
  cbv
  refine Ar.gtr_ hA (fun h => ?_) (fun h => ?_)
  · cbv
    exact hK _ _ rfl rfl
  have hb : l.length ≤ 1048576 := by omega
  have dS := dS hb
  have dI := dI hb
  have m1 := m1 hb
  have e2 := e2 hb
  cbv
  repeat' (first
    | (refine Ar.call_ hA c_laws_toWindow d_laws_toWindow rfl ?_; cbv)
    | (refine Ar.call_ hA c_laws_toIntS (d_laws_toIntS hes hb) rfl ?_; cbv)
    | (refine Ar.call_ hA c_spec_CropOf dS rfl ?_; cbv)
    | (refine Ar.call_ hA c_impl_CropOf dI rfl ?_; cbv)
    | (refine Ar.call_ hA c_laws_eqIntS e1 rfl ?_; cbv)
    | (refine Ar.call_ hA c_laws_eqIntS e2 rfl ?_; cbv)
    | (refine Ar.call_ hA c_laws_markIntS m1 rfl ?_; cbv)
    | (refine Ar.call_ hA c_laws_markIntS m2 rfl ?_; cbv)
    | (refine Ar.call_ hA c_laws_heldIntS m3 rfl ?_; cbv)
    | (refine Ar.notT_ hA ?_; cbv)
    | (refine Ar.bneq_ hA (fun h => absurd rfl h) (fun _ => ?_); cbv)
    | (refine Ar.neq_ hA (fun h => absurd rfl h) (fun _ => ?_); cbv)
    | (refine Ar.lss_ hA (fun h => absurd h (by omega)) (fun _ => ?_); cbv))
  exact hK _ _ rfl rfl

end Go.VAI
