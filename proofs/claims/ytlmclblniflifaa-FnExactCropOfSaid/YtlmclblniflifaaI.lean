/- CropOf: what its functions do, and the law. -/
import Derived.Test.YtlmclblniflifaaH
namespace Go.VAI
open Go.Proofs
set_option maxRecDepth 100000

def okByte (x : Int) : Bool := decide (0 ≤ x) && decide (x ≤ 255)
def goodCrop (wx wy ww wh : Int) (l : List Int) (px py pw ph : Int) : Bool :=
  okW wx wy ww wh && okW px py pw ph && decide (Int.ofNat l.length = ww * wh) && l.all okByte && decide (wx ≤ px ∧ wy ≤ py ∧ px + pw ≤ wx + ww ∧ py + ph ≤ wy + wh)
/-- The rows of a part. -/
def cropF (l : List Int) (W dx dy pw : Int) : Nat → List Int
  | 0 => []
  | r + 1 => cropF l W dx dy pw r ++ (l.drop ((dy + (r : Int)) * W + dx).toNat).take pw.toNat
theorem cropF_succ {l : List Int} {W dx dy pw i a : Int} (hi : 0 ≤ i) (ha : a = (dy + i) * W + dx) : cropF l W dx dy pw (i + 1).toNat = cropF l W dx dy pw i.toNat ++ (l.drop a.toNat).take pw.toNat := by
  rw [show (i + 1).toNat = i.toNat + 1 by omega]
  simp only [cropF]
  rw [show ((i.toNat : Nat) : Int) = i by omega, ha]
theorem crop_off {a W h : Int} (h0 : 0 ≤ a) (h1 : a < h) (h2 : 0 ≤ W) : 0 ≤ a * W ∧ a * W + W ≤ h * W := by
  refine ⟨Int.mul_nonneg h0 h2, ?_⟩
  have : (a + 1) * W ≤ h * W := Int.mul_le_mul_of_nonneg_right (by omega) h2
  rwa [Int.add_mul, Int.one_mul] at this

theorem c_spec_l14Bytes : Callable Try.prog 75 := ⟨_, Try.func75, rfl, by kernel_rfl⟩
theorem d_spec_l14Bytes {es : List PV} {l : List Int} {x y z w : Int} (hes : es = l.map i64) (hb : l.length ≤ 1048576) : Does Try.prog 75 [.agg [i64 x, i64 y, i64 z, i64 w], .sl es] (.pv (bl (l.all okByte && okW x y z w && decide (Int.ofNat l.length = z * w)))) [] := by
  refine does_of hT hM Try.func75 rfl (by kernel_rfl) rfl rfl rfl (fun A K hA hK => ?_)
  have hlen : es.length = l.length := by simp [hes]
  cbv
  refine Ar.len_ hA (fun n hn hn' => ?_)
  cbv
  refine Ar.loop_ hA (α := Int) (fun i => (n - i).toNat) (fun i => 0 ≤ i ∧ i ≤ n ∧ ∀ p ∈ l.take i.toNat, okByte p = true) 29 (fun i => [(1, .pv (.sl es) []), (2, .ref 2 0), (7, .pv (.sl es) []), (8, .pv (i64 n) []), (9, .pv (i64 i) [])]) (fun _ => [(2, some (.cell [.pv (i64 x) [], .pv (i64 y) [], .pv (i64 z) [], .pv (i64 w) []]))]) 0 ⟨rfl, ⟨rfl, rfl, rfl, rfl, rfl, trivial⟩, rfl, trivial⟩ ⟨by omega, by omega, by simp⟩ ?_
  intro i s f ⟨h1, h2, h3⟩
  cbv
  refine Ar.lss_ hA (fun h => ?_) (fun h => ?_)
  · cbv
    refine Ar.nn_ hA (by omega) ?_
    cbv
    refine Ar.toN_ hA (fun j hj => ?_)
    cbv
    obtain ⟨p, hp⟩ : ∃ p, l[j]? = some p := ⟨l[j]'(by omega), List.getElem?_eq_getElem _⟩
    refine Ar.idx_ hA (x := i64 p) (by simp [hes, hp, P2.pv]) ?_
    cbv
    refine Ar.callT hA c_spec_l1In d_spec_l1In rfl (fun hb => ?_) (fun hb => ?_)
    · cbv
      refine Ar.notT_ hA ?_
      cbv
      refine Ar.add_ hA (by omega) (fun k hk => ?_)
      cbv
      refine ⟨k, by omega, ⟨by omega, by omega, ?_⟩, rfl, ⟨rfl, rfl, rfl, rfl, rfl, trivial⟩, rfl, trivial⟩
      rw [show k.toNat = j + 1 by omega, List.take_add_one, hp]
      intro q hq
      simp only [Option.toList_some, List.mem_append, List.mem_singleton] at hq
      rcases hq with hq | rfl
      · exact h3 q (by rw [← hj]; exact hq)
      · exact hb
    · cbv
      refine Ar.notF_ hA ?_
      cbv
      refine hK _ _ ?_ rfl
      have : l.all okByte = false := by
        rw [List.all_eq_false]
        exact ⟨p, List.mem_of_getElem? hp, by rw [show okByte p = false from hb]; simp⟩
      rw [this]; rfl
  · rw [List.take_of_length_le (by omega)] at h3
    have hall : l.all okByte = true := by rw [List.all_eq_true]; exact h3
    have e := ofNat_eq l.length
    cbv
    refine Ar.callT hA c_spec_GoodWindow d_spec_GoodWindow rfl (fun hb => ?_) (fun hb => ?_)
    · have hb' := hb
      unfold okW at hb'
      simp only [decide_eq_true_eq] at hb'
      cbv
      repeat' (first
        | (refine Ar.nn_ hA (by omega) ?_; cbv)
        | (refine Ar.toN_ hA (fun _ _ => ?_); cbv)
        | (refine Ar.notT_ hA ?_; cbv)
        | (refine Ar.notF_ hA ?_; cbv)
        | (refine Ar.lss_ hA (fun _ => ?_) (fun _ => ?_) <;> cbv)
        | (refine Ar.leq_ hA (fun _ => ?_) (fun _ => ?_) <;> cbv)
        | (refine Ar.gtr_ hA (fun _ => ?_) (fun _ => ?_) <;> cbv)
        | (refine Ar.geq_ hA (fun _ => ?_) (fun _ => ?_) <;> cbv)
        | (refine Ar.eql_ hA (fun _ => ?_) (fun _ => ?_) <;> cbv)
        | (refine Ar.neq_ hA (fun _ => ?_) (fun _ => ?_) <;> cbv)
        | (refine Ar.add_ hA (by omega) (fun _ _ => ?_); cbv)
        | (refine Ar.sub_ hA (by omega) (fun _ _ => ?_); cbv)
        | (refine Ar.neg_ hA (by omega) (fun _ _ => ?_); cbv)
        | (refine Ar.mulB hA 2000 2000 (by omega) (by omega) (by omega) (fun _ _ _ _ => ?_); cbv)
        | (refine Ar.mulB hA 3000000000 3000000000 (by omega) (by omega) (by omega) (fun _ _ _ _ => ?_); cbv)
        | (refine Ar.nz_ hA (by omega) ?_; cbv)
        | (refine Ar.rem_ hA (by omega) (fun _ _ => ?_); cbv)
        | (refine Ar.quo_ hA (by omega) (fun _ _ => ?_); cbv)
        | (refine Ar.mx_ hA (fun _ _ => ?_); cbv)
        | (refine Ar.mn_ hA (fun _ _ => ?_); cbv)
        | (refine Ar.len_ hA (fun _ _ _ => ?_); cbv)
        | (refine Ar.lenN_ hA (fun _ _ => ?_); cbv)
        | (refine Ar.bneq_ hA (fun _ => ?_) (fun _ => ?_) <;> cbv)
        | (refine Ar.beq_ hA (fun _ => ?_) (fun _ => ?_) <;> cbv)
        | (refine Ar.ofN_ hA (fun _ _ _ => ?_); cbv)
)
      all_goals exact hK _ _ (by rw [hall, hb]; subst_vars; simp; omega) rfl
    · cbv
      exact hK _ _ (by rw [hall, hb]; rfl) rfl

theorem c_spec_l14Within : Callable Try.prog 76 := ⟨_, Try.func76, rfl, by kernel_rfl⟩
theorem d_spec_l14Within {x y z w px py pz pw : Int} (hw : okW x y z w = true) : Does Try.prog 76 [.agg [i64 x, i64 y, i64 z, i64 w], .agg [i64 px, i64 py, i64 pz, i64 pw]] (.pv (bl (okW px py pz pw && decide (x ≤ px ∧ y ≤ py ∧ px + pz ≤ x + z ∧ py + pw ≤ y + w)))) [] := by
  refine does_of hT hM Try.func76 rfl (by kernel_rfl) rfl rfl rfl (fun A K hA hK => ?_)
  have hw' := hw
  unfold okW at hw'
  simp only [decide_eq_true_eq] at hw'
  cbv
  refine Ar.callT hA c_spec_GoodWindow d_spec_GoodWindow rfl (fun hb => ?_) (fun hb => ?_)
  · have hb' := hb
    unfold okW at hb'
    simp only [decide_eq_true_eq] at hb'
    cbv
    repeat' (first
      | (refine Ar.nn_ hA (by omega) ?_; cbv)
      | (refine Ar.toN_ hA (fun _ _ => ?_); cbv)
      | (refine Ar.notT_ hA ?_; cbv)
      | (refine Ar.notF_ hA ?_; cbv)
      | (refine Ar.lss_ hA (fun _ => ?_) (fun _ => ?_) <;> cbv)
      | (refine Ar.leq_ hA (fun _ => ?_) (fun _ => ?_) <;> cbv)
      | (refine Ar.gtr_ hA (fun _ => ?_) (fun _ => ?_) <;> cbv)
      | (refine Ar.geq_ hA (fun _ => ?_) (fun _ => ?_) <;> cbv)
      | (refine Ar.eql_ hA (fun _ => ?_) (fun _ => ?_) <;> cbv)
      | (refine Ar.neq_ hA (fun _ => ?_) (fun _ => ?_) <;> cbv)
      | (refine Ar.add_ hA (by omega) (fun _ _ => ?_); cbv)
      | (refine Ar.sub_ hA (by omega) (fun _ _ => ?_); cbv)
      | (refine Ar.neg_ hA (by omega) (fun _ _ => ?_); cbv)
      | (refine Ar.mulB hA 2000 2000 (by omega) (by omega) (by omega) (fun _ _ _ _ => ?_); cbv)
      | (refine Ar.mulB hA 3000000000 3000000000 (by omega) (by omega) (by omega) (fun _ _ _ _ => ?_); cbv)
      | (refine Ar.nz_ hA (by omega) ?_; cbv)
      | (refine Ar.rem_ hA (by omega) (fun _ _ => ?_); cbv)
      | (refine Ar.quo_ hA (by omega) (fun _ _ => ?_); cbv)
      | (refine Ar.mx_ hA (fun _ _ => ?_); cbv)
      | (refine Ar.mn_ hA (fun _ _ => ?_); cbv)
      | (refine Ar.len_ hA (fun _ _ _ => ?_); cbv)
      | (refine Ar.lenN_ hA (fun _ _ => ?_); cbv)
      | (refine Ar.bneq_ hA (fun _ => ?_) (fun _ => ?_) <;> cbv)
      | (refine Ar.beq_ hA (fun _ => ?_) (fun _ => ?_) <;> cbv)
      | (refine Ar.ofN_ hA (fun _ _ _ => ?_); cbv)
)
    all_goals exact hK _ _ (by rw [hb]; simp; omega) rfl
  · cbv
    exact hK _ _ (by rw [hb]; rfl) rfl

def cropR (wx wy ww wh : Int) (l : List Int) (px py pw ph : Int) : List Int := if goodCrop wx wy ww wh l px py pw ph then cropF l ww (px - wx) (py - wy) pw ph.toNat else []

theorem goodCrop_eq (wx wy ww wh : Int) (l : List Int) (px py pw ph : Int) : goodCrop wx wy ww wh l px py pw ph = ((l.all okByte && okW wx wy ww wh && decide (Int.ofNat l.length = ww * wh)) && (okW px py pw ph && decide (wx ≤ px ∧ wy ≤ py ∧ px + pw ≤ wx + ww ∧ py + ph ≤ wy + wh))) := by
  unfold goodCrop
  cases okW wx wy ww wh <;> cases okW px py pw ph <;> cases l.all okByte <;> simp

theorem cropF_le {l : List Int} {W dx dy pw : Int} (hp : pw ≤ 8) : ∀ n, (cropF l W dx dy pw n).length ≤ 8 * n
  | 0 => by simp [cropF]
  | n + 1 => by
    have := cropF_le hp n (l := l) (W := W) (dx := dx) (dy := dy)
    simp only [cropF, List.length_append, List.length_take]
    omega

theorem c_spec_CropOf : Callable Try.prog 43 := ⟨_, Try.func43, rfl, by kernel_rfl⟩
theorem d_spec_CropOf {es : List PV} {l : List Int} {wx wy ww wh px py pw ph : Int} (hes : es = l.map i64) (hb : l.length ≤ 1048576) : Does Try.prog 43 [.agg [i64 wx, i64 wy, i64 ww, i64 wh], .sl es, .agg [i64 px, i64 py, i64 pw, i64 ph]] (.tup [.row ((cropR wx wy ww wh l px py pw ph).map i64) 1 .free, .pv (bl (goodCrop wx wy ww wh l px py pw ph))]) [] := by
  refine does_of hT hM Try.func43 rfl (by kernel_rfl) rfl rfl rfl (fun A K hA hK => ?_)
  have hlen : es.length = l.length := by simp [hes]
  have hgc := goodCrop_eq wx wy ww wh l px py pw ph
  cbv
  refine Ar.callT hA c_spec_l14Bytes (d_spec_l14Bytes hes hb) rfl (fun h1 => ?_) (fun h1 => ?_)
  rotate_left
  · cbv
    repeat' (first
      | (refine Ar.nn_ hA (by omega) ?_; cbv)
      | (refine Ar.toN_ hA (fun _ _ => ?_); cbv)
      | (refine Ar.notT_ hA ?_; cbv)
      | (refine Ar.notF_ hA ?_; cbv)
      | (refine Ar.lss_ hA (fun _ => ?_) (fun _ => ?_) <;> cbv)
      | (refine Ar.leq_ hA (fun _ => ?_) (fun _ => ?_) <;> cbv)
      | (refine Ar.gtr_ hA (fun _ => ?_) (fun _ => ?_) <;> cbv)
      | (refine Ar.geq_ hA (fun _ => ?_) (fun _ => ?_) <;> cbv)
      | (refine Ar.eql_ hA (fun _ => ?_) (fun _ => ?_) <;> cbv)
      | (refine Ar.neq_ hA (fun _ => ?_) (fun _ => ?_) <;> cbv)
      | (refine Ar.add_ hA (by omega) (fun _ _ => ?_); cbv)
      | (refine Ar.sub_ hA (by omega) (fun _ _ => ?_); cbv)
      | (refine Ar.neg_ hA (by omega) (fun _ _ => ?_); cbv)
      | (refine Ar.mulB hA 2000 2000 (by omega) (by omega) (by omega) (fun _ _ _ _ => ?_); cbv)
      | (refine Ar.mulB hA 3000000000 3000000000 (by omega) (by omega) (by omega) (fun _ _ _ _ => ?_); cbv)
      | (refine Ar.nz_ hA (by omega) ?_; cbv)
      | (refine Ar.rem_ hA (by omega) (fun _ _ => ?_); cbv)
      | (refine Ar.quo_ hA (by omega) (fun _ _ => ?_); cbv)
      | (refine Ar.mx_ hA (fun _ _ => ?_); cbv)
      | (refine Ar.mn_ hA (fun _ _ => ?_); cbv)
      | (refine Ar.len_ hA (fun _ _ _ => ?_); cbv)
      | (refine Ar.lenN_ hA (fun _ _ => ?_); cbv)
      | (refine Ar.bneq_ hA (fun _ => ?_) (fun _ => ?_) <;> cbv)
      | (refine Ar.beq_ hA (fun _ => ?_) (fun _ => ?_) <;> cbv)
      | (refine Ar.ofN_ hA (fun _ _ _ => ?_); cbv)
)
    exact hK _ _ (by rw [cropR, hgc, h1]; rfl) rfl
  have hw : okW wx wy ww wh = true := by simp at h1; exact h1.1.2
  have hn : Int.ofNat l.length = ww * wh := by simp at h1; exact h1.2
  cbv
  refine Ar.notT_ hA ?_
  cbv
  refine Ar.callT hA c_spec_l14Within (d_spec_l14Within hw) rfl (fun h2 => ?_) (fun h2 => ?_)
  rotate_left
  · cbv
    repeat' (first
      | (refine Ar.nn_ hA (by omega) ?_; cbv)
      | (refine Ar.toN_ hA (fun _ _ => ?_); cbv)
      | (refine Ar.notT_ hA ?_; cbv)
      | (refine Ar.notF_ hA ?_; cbv)
      | (refine Ar.lss_ hA (fun _ => ?_) (fun _ => ?_) <;> cbv)
      | (refine Ar.leq_ hA (fun _ => ?_) (fun _ => ?_) <;> cbv)
      | (refine Ar.gtr_ hA (fun _ => ?_) (fun _ => ?_) <;> cbv)
      | (refine Ar.geq_ hA (fun _ => ?_) (fun _ => ?_) <;> cbv)
      | (refine Ar.eql_ hA (fun _ => ?_) (fun _ => ?_) <;> cbv)
      | (refine Ar.neq_ hA (fun _ => ?_) (fun _ => ?_) <;> cbv)
      | (refine Ar.add_ hA (by omega) (fun _ _ => ?_); cbv)
      | (refine Ar.sub_ hA (by omega) (fun _ _ => ?_); cbv)
      | (refine Ar.neg_ hA (by omega) (fun _ _ => ?_); cbv)
      | (refine Ar.mulB hA 2000 2000 (by omega) (by omega) (by omega) (fun _ _ _ _ => ?_); cbv)
      | (refine Ar.mulB hA 3000000000 3000000000 (by omega) (by omega) (by omega) (fun _ _ _ _ => ?_); cbv)
      | (refine Ar.nz_ hA (by omega) ?_; cbv)
      | (refine Ar.rem_ hA (by omega) (fun _ _ => ?_); cbv)
      | (refine Ar.quo_ hA (by omega) (fun _ _ => ?_); cbv)
      | (refine Ar.mx_ hA (fun _ _ => ?_); cbv)
      | (refine Ar.mn_ hA (fun _ _ => ?_); cbv)
      | (refine Ar.len_ hA (fun _ _ _ => ?_); cbv)
      | (refine Ar.lenN_ hA (fun _ _ => ?_); cbv)
      | (refine Ar.bneq_ hA (fun _ => ?_) (fun _ => ?_) <;> cbv)
      | (refine Ar.beq_ hA (fun _ => ?_) (fun _ => ?_) <;> cbv)
      | (refine Ar.ofN_ hA (fun _ _ _ => ?_); cbv)
)
    exact hK _ _ (by rw [cropR, hgc, h1, h2]; rfl) rfl
  have hp : okW px py pw ph = true := by simp only [Bool.and_eq_true] at h2; exact h2.1
  have hwi : wx ≤ px ∧ wy ≤ py ∧ px + pw ≤ wx + ww ∧ py + ph ≤ wy + wh := by simp only [Bool.and_eq_true, decide_eq_true_eq] at h2; exact h2.2
  have hg : goodCrop wx wy ww wh l px py pw ph = true := by rw [hgc, h1, h2]; rfl
  unfold okW at hw hp
  simp only [decide_eq_true_eq] at hw hp
  rw [ofNat_eq] at hn
  have hnn : 0 ≤ ww * wh ∧ (ww * wh).toNat = l.length := by omega
  cbv
  refine Ar.notT_ hA ?_
  cbv
  refine Ar.loop_ hA (α := Int × List PV) (fun x => (py + ph - x.1).toNat) (fun (y, r) => py ≤ y ∧ y ≤ py + ph ∧ r = (cropF l ww (px - wx) (py - wy) pw (y - py).toNat).map i64) 62 (fun (y, r) => [(1, .pv (.sl es) []), (3, .ref 3 0), (5, .ref 5 0), (8, .own 8 none), (9, .pv (i64 y) [])]) (fun (y, r) => [(3, some (.cell [.pv (i64 wx) [], .pv (i64 wy) [], .pv (i64 ww) [], .pv (i64 wh) []])), (5, some (.cell [.pv (i64 px) [], .pv (i64 py) [], .pv (i64 pw) [], .pv (i64 ph) []])), (8, some (.row r 1 .free false))]) (py, []) ⟨rfl, ⟨rfl, rfl, rfl, rfl, rfl, trivial⟩, rfl, rfl, rfl, trivial⟩ ⟨by omega, by omega, by simp [cropF]⟩ ?_
  intro ⟨y, r⟩ s f ⟨g1, g2, g3⟩
  cbv
  refine Ar.add_ hA (by omega) (fun e1 he1 => ?_)
  cbv
  refine Ar.lss_ hA (fun h => ?_) (fun h => ?_)
  · have hoff := crop_off (a := y - wy) (W := ww) (h := wh) (by omega) (by omega) (by omega)
    rw [Int.mul_comm wh ww] at hoff
    obtain ⟨off, hoffe⟩ : ∃ off, off = (y - wy) * ww + (px - wx) := ⟨_, rfl⟩
    have hstep := cropF_succ (l := l) (W := ww) (dx := px - wx) (dy := py - wy) (pw := pw) (i := y - py) (a := off) (by omega) (by rw [hoffe, show py - wy + (y - py) = y - wy by omega])
    have hrl : r.length ≤ 64 := by
      rw [g3, List.length_map]
      have := cropF_le (l := l) (W := ww) (dx := px - wx) (dy := py - wy) (pw := pw) (by omega) (y - py).toNat
      omega
    cbv
    refine Ar.loop_ hA (α := Int × List PV) (fun x => (px + pw - x.1).toNat) (fun (x, q) => px ≤ x ∧ x ≤ px + pw ∧ q = r ++ ((l.drop off.toNat).take (x - px).toNat).map i64) 62 (fun (x, q) => [(1, .pv (.sl es) []), (3, .ref 3 0), (5, .ref 5 0), (8, .own 8 none), (9, .pv (i64 y) []), (10, .pv (i64 x) [])]) (fun (x, q) => [(3, some (.cell [.pv (i64 wx) [], .pv (i64 wy) [], .pv (i64 ww) [], .pv (i64 wh) []])), (5, some (.cell [.pv (i64 px) [], .pv (i64 py) [], .pv (i64 pw) [], .pv (i64 ph) []])), (8, some (.row q 1 .free false))]) (px, r) ⟨rfl, ⟨rfl, rfl, rfl, rfl, rfl, rfl, trivial⟩, rfl, rfl, rfl, trivial⟩ ⟨by omega, by omega, by simp⟩ ?_
    intro ⟨x, q⟩ s f ⟨k1, k2, k3⟩
    cbv
    refine Ar.add_ hA (by omega) (fun e2 he2 => ?_)
    cbv
    refine Ar.lss_ hA (fun h' => ?_) (fun h' => ?_)
    · cbv
      refine Ar.sub_ hA (by omega) (fun t1 ht1 => ?_)
      cbv
      refine Ar.mulB hA 2000 2000 (by omega) (by omega) (by omega) (fun t2 ht2 _ _ => ?_)
      have ht2' : t2 = (y - wy) * ww := by rw [ht2, ht1]
      cbv
      refine Ar.add_ hA (by omega) (fun t3 ht3 => ?_)
      cbv
      refine Ar.sub_ hA (by omega) (fun t4 ht4 => ?_)
      cbv
      have hq : ∃ p, l[t4.toNat]? = some p ∧ (l.drop off.toNat)[(x - px).toNat]? = some p := by
        have hlt : t4.toNat < l.length := by omega
        refine ⟨l[t4.toNat], List.getElem?_eq_getElem hlt, ?_⟩
        rw [List.getElem?_drop, show off.toNat + (x - px).toNat = t4.toNat by omega]
        exact List.getElem?_eq_getElem hlt
      obtain ⟨p, hp1, hp2⟩ := hq
      refine Ar.nn_ hA (by omega) ?_
      cbv
      refine Ar.toN_ hA (fun j hj => ?_)
      cbv
      refine Ar.idx_ hA (x := i64 p) (by rw [hj, hes]; simp [hp1]) ?_
      cbv
      refine Ar.app_ hA (fun q' hq' => ?_)
      cbv
      have hql : q'.length ≤ 73 := by
        rw [hq', k3]
        simp only [List.length_append, List.length_map, List.length_take, List.length_cons, List.length_nil]
        omega
      refine Ar.fitsL_ hA (by omega) ?_
      cbv
      refine Ar.add_ hA (by omega) (fun x' hx' => ?_)
      cbv
      refine ⟨(x', q'), (by show (px + pw - x').toNat < (px + pw - x).toNat; omega), ⟨by omega, by omega, ?_⟩, rfl, ⟨rfl, rfl, rfl, rfl, rfl, rfl, trivial⟩, rfl, rfl, rfl, trivial⟩
      rw [hq', k3, show (x' - px).toNat = (x - px).toNat + 1 by omega, List.take_add_one, hp2]
      simp
    · cbv
      refine Ar.add_ hA (by omega) (fun y' hy' => ?_)
      cbv
      refine ⟨(y', q), (by show (py + ph - y').toNat < (py + ph - y).toNat; omega), ⟨by omega, by omega, ?_⟩, rfl, ⟨rfl, rfl, rfl, rfl, rfl, trivial⟩, rfl, rfl, rfl, trivial⟩
      rw [k3, g3, show y' - py = y - py + 1 by omega, hstep, show x - px = pw by omega, List.map_append]
  · cbv
    refine hK _ _ ?_ rfl
    rw [hg, cropR, hg, if_pos rfl, g3, show y - py = ph by omega]

end Go.VAI
