/- WindingSum. -/
import Derived.Test.YtekmnlagkoelcaaS
import Derived.Test.YtekmnlagkoelcaaK
namespace Go.VAI
open Go.Proofs
set_option maxRecDepth 100000
set_option maxHeartbeats 8000000

def cellV (l : List P2) (x y : Int) : Int := if onWayF l x y then 0 else windF l x y
def gridSum (l : List P2) (lx ly : Int) (H W : Nat) : Int := sumTo (fun i => sumTo (fun j => cellV l (lx + (i : Int)) (ly + (j : Int))) H) W
def windSumOk (l : List P2) : Bool := isWayF l && decide ((maxX l - minX l + 1) * (maxY l - minY l + 1) ≤ 400)
def windSumR (l : List P2) : Int := if windSumOk l then gridSum l (minX l) (minY l) (maxY l - minY l + 1).toNat (maxX l - minX l + 1).toNat else 0

theorem sumTo_bounds {f : Nat → Int} (h : ∀ i, -1 ≤ f i ∧ f i ≤ 1) : ∀ k : Nat, -(k : Int) ≤ sumTo f k ∧ sumTo f k ≤ (k : Int)
  | 0 => by simp [sumTo]
  | k + 1 => by unfold sumTo; have := sumTo_bounds h k; have := h k; omega

theorem windF_bounds (l : List P2) (x y : Int) (h : l.length ≤ 12) : -12 ≤ windF l x y ∧ windF l x y ≤ 12 := by
  have := sumTo_bounds (f := turnE l x y) (fun i => by unfold turnE turnV; split <;> (try split) <;> omega) l.length
  unfold windF; omega

theorem fold_in {g : P2 → Int} {op : Int → Int → Int} (hop : ∀ a b, -1000 ≤ a ∧ a ≤ 1000 → -1000 ≤ b ∧ b ≤ 1000 → -1000 ≤ op a b ∧ op a b ≤ 1000) : ∀ (l : List P2) (b : Int), (∀ p ∈ l, -1000 ≤ g p ∧ g p ≤ 1000) → -1000 ≤ b ∧ b ≤ 1000 →
    -1000 ≤ l.foldl (fun m a => op m (g a)) b ∧ l.foldl (fun m a => op m (g a)) b ≤ 1000
  | [], b, _, hb => hb
  | p :: l, b, h, hb => fold_in hop l (op b (g p)) (fun q hq => h q (by simp [hq])) (hop _ _ hb (h p (by simp)))

theorem fold_min {g : P2 → Int} : ∀ (l : List P2) (b : Int), l.foldl (fun m a => min m (g a)) b ≤ b
  | [], _ => Int.le_refl _
  | p :: l, b => Int.le_trans (fold_min l _) (by show min b (g p) ≤ b; omega)
theorem fold_max {g : P2 → Int} : ∀ (l : List P2) (b : Int), b ≤ l.foldl (fun m a => max m (g a)) b
  | [], _ => Int.le_refl _
  | p :: l, b => Int.le_trans (by show b ≤ max b (g p); omega) (fold_max l _)

theorem box_bounds {l : List P2} (hok : ∀ p ∈ l, p.ok = true) (h0 : 0 < l.length) : (-1000 ≤ minX l ∧ minX l ≤ 1000) ∧ (-1000 ≤ minY l ∧ minY l ≤ 1000) ∧ (-1000 ≤ maxX l ∧ maxX l ≤ 1000) ∧ (-1000 ≤ maxY l ∧ maxY l ≤ 1000) ∧ minX l ≤ maxX l ∧ minY l ≤ maxY l := by
  obtain ⟨x, y, hg, hh⟩ := hd0_get h0
  have bh := ok_bounds hok hg
  have hx : ∀ p ∈ l, -1000 ≤ p.x ∧ p.x ≤ 1000 := fun p hp => by have := P2.ok_iff.1 (hok p hp); omega
  have hy : ∀ p ∈ l, -1000 ≤ p.y ∧ p.y ≤ 1000 := fun p hp => by have := P2.ok_iff.1 (hok p hp); omega
  unfold minX minY maxX maxY
  rw [hh]
  refine ⟨fold_in (g := P2.x) (op := min) (fun a b _ _ => by omega) l _ hx (by simp only; omega), fold_in (g := P2.y) (op := min) (fun a b _ _ => by omega) l _ hy (by simp only; omega),
    fold_in (g := P2.x) (op := max) (fun a b _ _ => by omega) l _ hx (by simp only; omega), fold_in (g := P2.y) (op := max) (fun a b _ _ => by omega) l _ hy (by simp only; omega),
    Int.le_trans (fold_min (g := P2.x) l _) (fold_max (g := P2.x) l _), Int.le_trans (fold_min (g := P2.y) l _) (fold_max (g := P2.y) l _)⟩

theorem grid_parts (l : List P2) (lx ly : Int) (H W : Nat) : ∃ (F : Int → Nat → Int) (G : Nat → Int), (∀ x y, ly ≤ y → F x (y - ly).toNat = cellV l x y) ∧ (∀ x, lx ≤ x → G (x - lx).toNat = sumTo (F x) H) ∧ sumTo G W = gridSum l lx ly H W := by
  refine ⟨fun x j => cellV l x (ly + (j : Int)), fun i => sumTo (fun j => cellV l (lx + (i : Int)) (ly + (j : Int))) H, fun x y h => ?_, fun x h => ?_, rfl⟩
  · show cellV l x (ly + ((y - ly).toNat : Int)) = _
    congr 1; omega
  · show sumTo (fun j => cellV l (lx + ((x - lx).toNat : Int)) (ly + (j : Int))) H = _
    rw [show lx + ((x - lx).toNat : Int) = x by omega]

theorem c_spec_WindingSum : Callable Try.prog 42 := ⟨_, Try.func42, rfl, by kernel_rfl⟩
theorem d_spec_WindingSum {es : List PV} {l : List P2} (hes : es = l.map P2.pv) (hb : l.length ≤ 1048576) : Does Try.prog 42 [.sl es] (.tup [.pv (i64 (windSumR l)), .pv (bl (windSumOk l))]) [] := by
  refine does_of hT hM Try.func42 rfl (D := []) (by kernel_rfl) rfl rfl rfl (fun A K hA hK => ?_)
  have hlen : es.length = l.length := by simp [hes]
  cbv
  refine Ar.callT hA c_spec_l8Way (d_spec_l8Way hes hb) rfl (fun hc => ?_) (fun hc => ?_)
  rotate_left
  · cbv
    repeat' (first
      | (refine Ar.nn_ hA (by omega) ?_; cbv)
      | (refine Ar.toN_ hA (fun _ _ => ?_); cbv)
      | (refine Ar.notT_ hA ?_; cbv)
      | (refine Ar.notF_ hA ?_; cbv)
      | (refine Ar.lss_ hA (fun _ => ?_) (fun _ => ?_) <;> cbv)
      | (refine Ar.leq_ hA (fun _ => ?_) (fun _ => ?_) <;> cbv)
      | (refine Ar.gtr_ hA (fun _ => ?_) (fun _ => ?_) <;> cbv)
      | (refine Ar.geq_ hA (fun _ => ?_) (fun _ => ?_) <;> cbv)
      | (refine Ar.eql_ hA (fun _ => ?_) (fun _ => ?_) <;> cbv)
      | (refine Ar.neq_ hA (fun _ => ?_) (fun _ => ?_) <;> cbv)
      | (refine Ar.add_ hA (by omega) (fun _ _ => ?_); cbv)
      | (refine Ar.sub_ hA (by omega) (fun _ _ => ?_); cbv)
      | (refine Ar.neg_ hA (by omega) (fun _ _ => ?_); cbv)
      | (refine Ar.mulB hA 2000 2000 (by omega) (by omega) (by omega) (fun _ _ _ _ => ?_); cbv)
      | (refine Ar.mulB hA 3000000000 3000000000 (by omega) (by omega) (by omega) (fun _ _ _ _ => ?_); cbv)
      | (refine Ar.nz_ hA (by omega) ?_; cbv)
      | (refine Ar.rem_ hA (by omega) (fun _ _ => ?_); cbv)
      | (refine Ar.quo_ hA (by omega) (fun _ _ => ?_); cbv)
      | (refine Ar.mx_ hA (fun _ _ => ?_); cbv)
      | (refine Ar.mn_ hA (fun _ _ => ?_); cbv)
      | (refine Ar.len_ hA (fun _ _ _ => ?_); cbv)
      | (refine Ar.lenN_ hA (fun _ _ => ?_); cbv)
      | (refine Ar.bneq_ hA (fun _ => ?_) (fun _ => ?_) <;> cbv)
      | (refine Ar.beq_ hA (fun _ => ?_) (fun _ => ?_) <;> cbv)
      | (refine Ar.ofN_ hA (fun _ _ _ => ?_); cbv)
)
    exact hK _ _ (by simp [windSumR, windSumOk, hc]) rfl
  obtain ⟨c1, c2, hok⟩ := isWayF_iff.1 hc
  have bb := box_bounds hok (by omega)
  have db := d_spec_l9Box hes (by omega) c2 hok
  obtain ⟨lx, hlx⟩ : ∃ a, a = minX l := ⟨_, rfl⟩
  obtain ⟨ly, hly⟩ : ∃ a, a = minY l := ⟨_, rfl⟩
  obtain ⟨hx, hhx⟩ : ∃ a, a = maxX l := ⟨_, rfl⟩
  obtain ⟨hy, hhy⟩ : ∃ a, a = maxY l := ⟨_, rfl⟩
  rw [← hlx, ← hly, ← hhx, ← hhy] at db bb
  have hR : windSumOk l = decide ((hx - lx + 1) * (hy - ly + 1) ≤ 400) := by unfold windSumOk; rw [hc, hlx, hly, hhx, hhy]; rfl
  have hS : windSumOk l = true → windSumR l = gridSum l lx ly (hy - ly + 1).toNat (hx - lx + 1).toNat := by intro h; unfold windSumR; rw [h, hlx, hly, hhx, hhy]; rfl
  have hS' : windSumOk l = false → windSumR l = 0 := by intro h; unfold windSumR; rw [h]; rfl
  clear hlx hly hhx hhy
  cbv
  refine Ar.notT_ hA ?_
  cbv
  refine Ar.call_ hA c_spec_l9Box db rfl ?_
  cbv
  refine Ar.sub_ hA (by omega) (fun u1 hu1 => ?_)
  cbv
  refine Ar.add_ hA (by omega) (fun u2 hu2 => ?_)
  cbv
  refine Ar.sub_ hA (by omega) (fun u3 hu3 => ?_)
  cbv
  refine Ar.add_ hA (by omega) (fun u4 hu4 => ?_)
  cbv
  refine Ar.mulB hA 3000 3000 (by omega) (by omega) (by omega) (fun ar har _ _ => ?_)
  rw [hu2, hu4, hu1, hu3] at har
  rw [← har] at hR
  cbv
  refine Ar.gtr_ hA (fun hbig => ?_) (fun hbig => ?_)
  · have hf : windSumOk l = false := by rw [hR]; exact decide_eq_false (by omega)
    cbv
    exact hK _ _ (by rw [hS' hf, hf]) rfl
  have hf : windSumOk l = true := by rw [hR]; exact decide_eq_true (by omega)
  have hS := hS hf
  rw [hS, hf] at hK
  clear hS hS' hR hf har
  obtain ⟨H, hH⟩ : ∃ H, H = (hy - ly + 1).toNat := ⟨_, rfl⟩
  obtain ⟨W, hW⟩ : ∃ W, W = (hx - lx + 1).toNat := ⟨_, rfl⟩
  obtain ⟨F, G, hF, hG, hGS⟩ := grid_parts l lx ly H W
  rw [← hH, ← hW, ← hGS] at hK
  cbv
  refine Ar.loop_ hA (α := Int × Int) (fun q => (hx + 1 - q.1).toNat) (fun (x, m) => lx ≤ x ∧ x ≤ hx + 1 ∧ -(24012 * (x - lx)) ≤ m ∧ m ≤ 24012 * (x - lx) ∧ m = sumTo G (x - lx).toNat) 61 (fun (x, m) => [(0, .pv (.sl es) []), (4, .ref 4 0), (5, .ref 5 0), (6, .pv (i64 m) []), (7, .pv (i64 x) [])]) (fun _ => [(4, some (.cell [.pv (i64 lx) [], .pv (i64 ly) []])), (5, some (.cell [.pv (i64 hx) [], .pv (i64 hy) []]))]) (lx, 0) (by refine ⟨?_, ⟨?_, ?_, ?_, ?_, ?_, trivial⟩, ?_, ?_, trivial⟩ <;> cbv) ⟨by omega, by omega, by omega, by omega, by rw [show (lx - lx).toNat = 0 by omega]; rfl⟩ ?_
  intro ⟨x, b0⟩ s f ⟨h1, h2, h3, h4, h5⟩
  cbv
  refine Ar.leq_ hA (fun h => ?_) (fun h => ?_)
  · have hGx := hG x h1
    cbv
    refine Ar.loop_ hA (α := Int × Int) (fun q => (hy + 1 - q.1).toNat) (fun (y, m) => ly ≤ y ∧ y ≤ hy + 1 ∧ -(24012 * (x - lx) + 12 * (y - ly)) ≤ m ∧ m ≤ 24012 * (x - lx) + 12 * (y - ly) ∧ m - b0 = sumTo (F x) (y - ly).toNat) 61 (fun (y, m) => [(0, .pv (.sl es) []), (4, .ref 4 0), (5, .ref 5 0), (6, .pv (i64 m) []), (7, .pv (i64 x) []), (8, .pv (i64 y) [])]) (fun _ => [(4, some (.cell [.pv (i64 lx) [], .pv (i64 ly) []])), (5, some (.cell [.pv (i64 hx) [], .pv (i64 hy) []]))]) (ly, b0) (by refine ⟨?_, ⟨?_, ?_, ?_, ?_, ?_, ?_, trivial⟩, ?_, ?_, trivial⟩ <;> cbv) ⟨by omega, by omega, by omega, by omega, by rw [show (ly - ly).toNat = 0 by omega]; show b0 - b0 = 0; omega⟩ ?_
    intro ⟨y, m⟩ s f ⟨g1, g2, g3, g4, g5⟩
    cbv
    refine Ar.leq_ hA (fun g => ?_) (fun g => ?_)
    · have hFy := hF x y g1
      have bw := windF_bounds l x y c2
      cbv
      refine Ar.callT hA c_spec_l9On (d_spec_l9On hes (by omega) c2 hok (by omega)) rfl (fun hd => ?_) (fun hd => ?_)
      · have hv : F x (y - ly).toNat = 0 := by rw [hFy]; unfold cellV; rw [hd]; rfl
        cbv
        refine Ar.notT_ hA ?_
        cbv
        refine Ar.add_ hA (by omega) (fun y' hy' => ?_)
        cbv
        exact ⟨(y', m), (by show (hy + 1 - y').toNat < (hy + 1 - y).toNat; omega), ⟨by omega, by omega, by omega, by omega, sumTo_next g5 (by omega) (by rw [hv]; omega)⟩, rfl, ⟨rfl, rfl, rfl, rfl, rfl, rfl, trivial⟩, rfl, rfl, trivial⟩
      · have hv : F x (y - ly).toNat = windF l x y := by rw [hFy]; unfold cellV; rw [hd]; rfl
        have dt := d_spec_l9Winding (qx := x) (qy := y) hes (by omega) c2 hok (by omega)
        generalize windF l x y = w at dt hv bw
        cbv
        refine Ar.notF_ hA ?_
        cbv
        refine Ar.call_ hA c_spec_l9Winding dt rfl ?_
        cbv
        refine Ar.add_ hA (by omega) (fun m' hm' => ?_)
        cbv
        refine Ar.add_ hA (by omega) (fun y' hy' => ?_)
        cbv
        exact ⟨(y', m'), (by show (hy + 1 - y').toNat < (hy + 1 - y).toNat; omega), ⟨by omega, by omega, by omega, by omega, sumTo_next g5 (by omega) (by rw [hv]; omega)⟩, rfl, ⟨rfl, rfl, rfl, rfl, rfl, rfl, trivial⟩, rfl, rfl, trivial⟩
    · cbv
      refine Ar.add_ hA (by omega) (fun x' hx' => ?_)
      cbv
      exact ⟨(x', m), (by show (hx + 1 - x').toNat < (hx + 1 - x).toNat; omega), ⟨by omega, by omega, by omega, by omega, sumTo_next h5 (by omega) (by rw [hGx, ← show (y - ly).toNat = H by omega, ← g5]; omega)⟩, rfl, ⟨rfl, rfl, rfl, rfl, rfl, trivial⟩, rfl, rfl, trivial⟩
  · cbv
    exact hK _ _ (by rw [h5, show (x - lx).toNat = W by omega]) rfl

theorem c_impl_WindingSum : Callable Try.prog 43 := ⟨_, Try.func43, rfl, by kernel_rfl⟩
theorem d_impl_WindingSum {es : List PV} {l : List P2} (hes : es = l.map P2.pv) (hb : l.length ≤ 1048576) : Does Try.prog 43 [.sl es] (.tup [.pv (i64 (windSumR l)), .pv (bl (windSumOk l))]) [] := by
  refine does_of hT hM Try.func43 rfl (D := []) (by kernel_rfl) rfl rfl rfl (fun A K hA hK => ?_)
  have hlen : es.length = l.length := by simp [hes]
  cbv
  refine Ar.callT hA c_impl_isWay (d_impl_isWay hes hb) rfl (fun hc => ?_) (fun hc => ?_)
  rotate_left
  · cbv
    repeat' (first
      | (refine Ar.nn_ hA (by omega) ?_; cbv)
      | (refine Ar.toN_ hA (fun _ _ => ?_); cbv)
      | (refine Ar.notT_ hA ?_; cbv)
      | (refine Ar.notF_ hA ?_; cbv)
      | (refine Ar.lss_ hA (fun _ => ?_) (fun _ => ?_) <;> cbv)
      | (refine Ar.leq_ hA (fun _ => ?_) (fun _ => ?_) <;> cbv)
      | (refine Ar.gtr_ hA (fun _ => ?_) (fun _ => ?_) <;> cbv)
      | (refine Ar.geq_ hA (fun _ => ?_) (fun _ => ?_) <;> cbv)
      | (refine Ar.eql_ hA (fun _ => ?_) (fun _ => ?_) <;> cbv)
      | (refine Ar.neq_ hA (fun _ => ?_) (fun _ => ?_) <;> cbv)
      | (refine Ar.add_ hA (by omega) (fun _ _ => ?_); cbv)
      | (refine Ar.sub_ hA (by omega) (fun _ _ => ?_); cbv)
      | (refine Ar.neg_ hA (by omega) (fun _ _ => ?_); cbv)
      | (refine Ar.mulB hA 2000 2000 (by omega) (by omega) (by omega) (fun _ _ _ _ => ?_); cbv)
      | (refine Ar.mulB hA 3000000000 3000000000 (by omega) (by omega) (by omega) (fun _ _ _ _ => ?_); cbv)
      | (refine Ar.nz_ hA (by omega) ?_; cbv)
      | (refine Ar.rem_ hA (by omega) (fun _ _ => ?_); cbv)
      | (refine Ar.quo_ hA (by omega) (fun _ _ => ?_); cbv)
      | (refine Ar.mx_ hA (fun _ _ => ?_); cbv)
      | (refine Ar.mn_ hA (fun _ _ => ?_); cbv)
      | (refine Ar.len_ hA (fun _ _ _ => ?_); cbv)
      | (refine Ar.lenN_ hA (fun _ _ => ?_); cbv)
      | (refine Ar.bneq_ hA (fun _ => ?_) (fun _ => ?_) <;> cbv)
      | (refine Ar.beq_ hA (fun _ => ?_) (fun _ => ?_) <;> cbv)
      | (refine Ar.ofN_ hA (fun _ _ _ => ?_); cbv)
)
    exact hK _ _ (by simp [windSumR, windSumOk, hc]) rfl
  obtain ⟨c1, c2, hok⟩ := isWayF_iff.1 hc
  have bb := box_bounds hok (by omega)
  have db := d_impl_boxOf hes (by omega) c2 hok
  obtain ⟨lx, hlx⟩ : ∃ a, a = minX l := ⟨_, rfl⟩
  obtain ⟨ly, hly⟩ : ∃ a, a = minY l := ⟨_, rfl⟩
  obtain ⟨hx, hhx⟩ : ∃ a, a = maxX l := ⟨_, rfl⟩
  obtain ⟨hy, hhy⟩ : ∃ a, a = maxY l := ⟨_, rfl⟩
  rw [← hlx, ← hly, ← hhx, ← hhy] at db bb
  have hR : windSumOk l = decide ((hx - lx + 1) * (hy - ly + 1) ≤ 400) := by unfold windSumOk; rw [hc, hlx, hly, hhx, hhy]; rfl
  have hS : windSumOk l = true → windSumR l = gridSum l lx ly (hy - ly + 1).toNat (hx - lx + 1).toNat := by intro h; unfold windSumR; rw [h, hlx, hly, hhx, hhy]; rfl
  have hS' : windSumOk l = false → windSumR l = 0 := by intro h; unfold windSumR; rw [h]; rfl
  clear hlx hly hhx hhy
  cbv
  refine Ar.notT_ hA ?_
  cbv
  refine Ar.call_ hA c_impl_boxOf db rfl ?_
  cbv
  refine Ar.sub_ hA (by omega) (fun u1 hu1 => ?_)
  cbv
  refine Ar.add_ hA (by omega) (fun u2 hu2 => ?_)
  cbv
  refine Ar.sub_ hA (by omega) (fun u3 hu3 => ?_)
  cbv
  refine Ar.add_ hA (by omega) (fun u4 hu4 => ?_)
  cbv
  refine Ar.mulB hA 3000 3000 (by omega) (by omega) (by omega) (fun ar har _ _ => ?_)
  rw [hu2, hu4, hu1, hu3] at har
  rw [← har] at hR
  cbv
  refine Ar.gtr_ hA (fun hbig => ?_) (fun hbig => ?_)
  · have hf : windSumOk l = false := by rw [hR]; exact decide_eq_false (by omega)
    cbv
    exact hK _ _ (by rw [hS' hf, hf]) rfl
  have hf : windSumOk l = true := by rw [hR]; exact decide_eq_true (by omega)
  have hS := hS hf
  rw [hS, hf] at hK
  clear hS hS' hR hf har
  obtain ⟨H, hH⟩ : ∃ H, H = (hy - ly + 1).toNat := ⟨_, rfl⟩
  obtain ⟨W, hW⟩ : ∃ W, W = (hx - lx + 1).toNat := ⟨_, rfl⟩
  obtain ⟨F, G, hF, hG, hGS⟩ := grid_parts l lx ly H W
  rw [← hH, ← hW, ← hGS] at hK
  cbv
  refine Ar.loop_ hA (α := Int × Int) (fun q => (hx + 1 - q.1).toNat) (fun (x, m) => lx ≤ x ∧ x ≤ hx + 1 ∧ -(24012 * (x - lx)) ≤ m ∧ m ≤ 24012 * (x - lx) ∧ m = sumTo G (x - lx).toNat) 67 (fun (x, m) => [(0, .pv (.sl es) []), (4, .ref 4 0), (5, .ref 5 0), (6, .pv (i64 m) []), (7, .pv (i64 x) [])]) (fun _ => [(4, some (.cell [.pv (i64 lx) [], .pv (i64 ly) []])), (5, some (.cell [.pv (i64 hx) [], .pv (i64 hy) []]))]) (lx, 0) (by refine ⟨?_, ⟨?_, ?_, ?_, ?_, ?_, trivial⟩, ?_, ?_, trivial⟩ <;> cbv) ⟨by omega, by omega, by omega, by omega, by rw [show (lx - lx).toNat = 0 by omega]; rfl⟩ ?_
  intro ⟨x, b0⟩ s f ⟨h1, h2, h3, h4, h5⟩
  cbv
  refine Ar.leq_ hA (fun h => ?_) (fun h => ?_)
  · have hGx := hG x h1
    cbv
    refine Ar.loop_ hA (α := Int × Int) (fun q => (hy + 1 - q.1).toNat) (fun (y, m) => ly ≤ y ∧ y ≤ hy + 1 ∧ -(24012 * (x - lx) + 12 * (y - ly)) ≤ m ∧ m ≤ 24012 * (x - lx) + 12 * (y - ly) ∧ m - b0 = sumTo (F x) (y - ly).toNat) 67 (fun (y, m) => [(0, .pv (.sl es) []), (4, .ref 4 0), (5, .ref 5 0), (6, .pv (i64 m) []), (7, .pv (i64 x) []), (8, .pv (i64 y) [])]) (fun _ => [(4, some (.cell [.pv (i64 lx) [], .pv (i64 ly) []])), (5, some (.cell [.pv (i64 hx) [], .pv (i64 hy) []]))]) (ly, b0) (by refine ⟨?_, ⟨?_, ?_, ?_, ?_, ?_, ?_, trivial⟩, ?_, ?_, trivial⟩ <;> cbv) ⟨by omega, by omega, by omega, by omega, by rw [show (ly - ly).toNat = 0 by omega]; show b0 - b0 = 0; omega⟩ ?_
    intro ⟨y, m⟩ s f ⟨g1, g2, g3, g4, g5⟩
    cbv
    refine Ar.leq_ hA (fun g => ?_) (fun g => ?_)
    · have hFy := hF x y g1
      have bw := windF_bounds l x y c2
      cbv
      refine Ar.callT hA c_impl_onWay (d_impl_onWay hes (by omega) c2 hok (by omega)) rfl (fun hd => ?_) (fun hd => ?_)
      · have hv : F x (y - ly).toNat = 0 := by rw [hFy]; unfold cellV; rw [hd]; rfl
        cbv
        refine Ar.notT_ hA ?_
        cbv
        refine Ar.add_ hA (by omega) (fun y' hy' => ?_)
        cbv
        exact ⟨(y', m), (by show (hy + 1 - y').toNat < (hy + 1 - y).toNat; omega), ⟨by omega, by omega, by omega, by omega, sumTo_next g5 (by omega) (by rw [hv]; omega)⟩, rfl, ⟨rfl, rfl, rfl, rfl, rfl, rfl, trivial⟩, rfl, rfl, trivial⟩
      · have hv : F x (y - ly).toNat = windF l x y := by rw [hFy]; unfold cellV; rw [hd]; rfl
        have dt := d_impl_turns (qx := x) (qy := y) hes (by omega) c2 hok (by omega)
        generalize windF l x y = w at dt hv bw
        generalize crossF l x y = cr at dt
        cbv
        refine Ar.notF_ hA ?_
        cbv
        refine Ar.call_ hA c_impl_turns dt rfl ?_
        cbv
        refine Ar.add_ hA (by omega) (fun m' hm' => ?_)
        cbv
        refine Ar.add_ hA (by omega) (fun y' hy' => ?_)
        cbv
        exact ⟨(y', m'), (by show (hy + 1 - y').toNat < (hy + 1 - y).toNat; omega), ⟨by omega, by omega, by omega, by omega, sumTo_next g5 (by omega) (by rw [hv]; omega)⟩, rfl, ⟨rfl, rfl, rfl, rfl, rfl, rfl, trivial⟩, rfl, rfl, trivial⟩
    · cbv
      refine Ar.add_ hA (by omega) (fun x' hx' => ?_)
      cbv
      exact ⟨(x', m), (by show (hx + 1 - x').toNat < (hx + 1 - x).toNat; omega), ⟨by omega, by omega, by omega, by omega, sumTo_next h5 (by omega) (by rw [hGx, ← show (y - ly).toNat = H by omega, ← g5]; omega)⟩, rfl, ⟨rfl, rfl, rfl, rfl, rfl, trivial⟩, rfl, rfl, trivial⟩
  · cbv
    exact hK _ _ (by rw [h5, show (x - lx).toNat = W by omega]) rfl

theorem c_laws_FnExactWindingSum : Callable Try.prog 13 := ⟨_, Try.func13, rfl, by kernel_rfl⟩
theorem d_laws_FnExactWindingSum {es : List PV} {l : List P2} (hes : es = l.map P2.pv ∧ l.length ≤ 9223372036854775807) : Does Try.prog 13 [.sl es] (.pv (bl true)) [] := by
  refine does_of hT hM Try.func13 rfl (D := []) (by kernel_rfl) rfl rfl rfl (fun A K hA hK => ?_)
  obtain ⟨hes, hmax⟩ := hes
  have hlen : es.length = l.length := by simp [hes]
  cbv
  refine Ar.callI hA c_laws_szPtS (d_laws_szPtS (by omega) (by omega)) rfl (fun r hr => ?_)
  cbv
  refine Ar.lss_ hA (fun h => ?_) (fun h => ?_)
  · cbv
    exact hK _ _ rfl rfl
  have hb : l.length ≤ 1048576 := by have := szF_le hr h; omega
  cbv
  repeat' (first
    | (refine Ar.nn_ hA (by omega) ?_; cbv)
    | (refine Ar.toN_ hA (fun _ _ => ?_); cbv)
    | (refine Ar.notT_ hA ?_; cbv)
    | (refine Ar.notF_ hA ?_; cbv)
    | (refine Ar.lss_ hA (fun _ => ?_) (fun _ => ?_) <;> cbv)
    | (refine Ar.leq_ hA (fun _ => ?_) (fun _ => ?_) <;> cbv)
    | (refine Ar.gtr_ hA (fun _ => ?_) (fun _ => ?_) <;> cbv)
    | (refine Ar.geq_ hA (fun _ => ?_) (fun _ => ?_) <;> cbv)
    | (refine Ar.eql_ hA (fun _ => ?_) (fun _ => ?_) <;> cbv)
    | (refine Ar.neq_ hA (fun _ => ?_) (fun _ => ?_) <;> cbv)
    | (refine Ar.add_ hA (by omega) (fun _ _ => ?_); cbv)
    | (refine Ar.sub_ hA (by omega) (fun _ _ => ?_); cbv)
    | (refine Ar.neg_ hA (by omega) (fun _ _ => ?_); cbv)
    | (refine Ar.mulB hA 2000 2000 (by omega) (by omega) (by omega) (fun _ _ _ _ => ?_); cbv)
    | (refine Ar.mulB hA 3000000000 3000000000 (by omega) (by omega) (by omega) (fun _ _ _ _ => ?_); cbv)
    | (refine Ar.nz_ hA (by omega) ?_; cbv)
    | (refine Ar.rem_ hA (by omega) (fun _ _ => ?_); cbv)
    | (refine Ar.quo_ hA (by omega) (fun _ _ => ?_); cbv)
    | (refine Ar.mx_ hA (fun _ _ => ?_); cbv)
    | (refine Ar.mn_ hA (fun _ _ => ?_); cbv)
    | (refine Ar.len_ hA (fun _ _ _ => ?_); cbv)
    | (refine Ar.lenN_ hA (fun _ _ => ?_); cbv)
    | (refine Ar.bneq_ hA (fun _ => ?_) (fun _ => ?_) <;> cbv)
    | (refine Ar.beq_ hA (fun _ => ?_) (fun _ => ?_) <;> cbv)
    | (refine Ar.ofN_ hA (fun _ _ _ => ?_); cbv)
    | (refine Ar.call_ hA c_laws_toPtS (d_laws_toPtS hes hb) rfl ?_; cbv)
    | (refine Ar.callIB hA c_spec_WindingSum (d_spec_WindingSum hes hb) rfl (fun _ _ _ _ => ?_); cbv)
    | (refine Ar.callIB hA c_impl_WindingSum (d_impl_WindingSum hes hb) rfl (fun _ _ _ _ => ?_); cbv)
    | (refine Ar.callT hA c_laws_eqPtS (d_laws_eqPtS hes hes hb) rfl (fun _ => ?_) (fun _ => ?_) <;> cbv))
  all_goals first | exact hK _ _ rfl rfl | (exfalso; subst_vars; simp_all; done)

end Go.VAI
