/- Marks on numbers, fractions and points. -/
import Derived.Test.YtialfhjffkoakaaGreatNT
namespace Go.VAI
open Go.Proofs
set_option maxRecDepth 100000
set_option maxHeartbeats 8000000

theorem onFrom_le {n : Nat} {k m : Int} (hk : 0 ≤ k ∧ k ≤ m) (hn : n ≤ 1048576) : 0 ≤ onFrom n k ∧ onFrom n k ≤ m + 1048576 := by unfold onFrom; omega

theorem c_laws_markBig : Callable Tryz.prog 44 := ⟨_, Tryz.func44, rfl, by kernel_rfl⟩
theorem d_laws_markBig {s : Bool} {a c : List PV} {l : List Int} {k r : Int} (ha : a = l.map i64) (hb : l.length ≤ 1048576) (hk : 0 ≤ k ∧ k ≤ 4000000000000000000) (hc : c = (countUp l.length k).map i64) (hr : r = onFrom l.length k) : Does Tryz.prog 44 [.agg [bl s, .sl a], i64 k] (.pv (i64 r)) [.agg [bl s, .sl c]] := by
  refine does_of hT hM Tryz.func44 rfl (D := []) (by kernel_rfl) rfl rfl rfl (fun A K hA hK => ?_)
  have d := d_laws_markIntS ha hb ⟨hk.1, by omega⟩
  rw [← hc, ← hr] at d
  have hac : c.length = a.length := by rw [hc, ha]; simp [countUp_len]
  clear ha hb hk hc hr
  cbv
  refine Ar.call_ hA c_laws_markIntS d rfl ?_
  cbv
  refine Ar.same_ hA (by omega) ?_
  cbv
  exact hK _ _ rfl rfl

theorem c_laws_markRat : Callable Tryz.prog 16 := ⟨_, Tryz.func16, rfl, by kernel_rfl⟩
theorem d_laws_markRat {s t : Bool} {a b c d : List PV} {l m : List Int} {k r : Int} (ha : a = l.map i64) (hb : b = m.map i64) (hl : len4 1048576 ((s, l), (t, m))) (hk : 0 ≤ k ∧ k ≤ 3000000000000000000) (hc : c = (countUp l.length k).map i64) (hd : d = (countUp m.length (onFrom l.length k)).map i64) (hr : r = onFrom m.length (onFrom l.length k)) : Does Tryz.prog 16 [.agg [bl s, .sl a, bl t, .sl b], i64 k] (.pv (i64 r)) [.agg [bl s, .sl c, bl t, .sl d]] := by
  refine does_of hT hM Tryz.func16 rfl (D := []) (by kernel_rfl) rfl rfl rfl (fun A K hA hK => ?_)
  have h1 := onFrom_le hk hl.1
  have d1 := d_laws_markBig (s := s) (r := onFrom l.length k) ha hl.1 ⟨hk.1, by omega⟩ hc rfl
  have d2 := d_laws_markBig (s := t) hb hl.2 ⟨h1.1, by omega⟩ hd hr
  have hac : c.length = a.length := by rw [hc, ha]; simp [countUp_len]
  have hbd : d.length = b.length := by rw [hd, hb]; simp [countUp_len]
  clear ha hb hl hc hd hr hk h1
  generalize onFrom l.length k = k1 at *
  cbv
  refine Ar.call_ hA c_laws_markBig d1 rfl ?_
  cbv
  refine Ar.call_ hA c_laws_markBig d2 rfl ?_
  cbv
  refine Ar.same_ hA (by omega) ?_
  cbv
  refine Ar.same_ hA (by omega) ?_
  cbv
  exact hK _ _ rfl rfl

theorem c_laws_markRPt : Callable Tryz.prog 23 := ⟨_, Tryz.func23, rfl, by kernel_rfl⟩
theorem d_laws_markRPt {s1 t1 s2 t2 : Bool} {a1 b1 a2 b2 c1 d1 c2 d2 : List PV} {l1 m1 l2 m2 : List Int} {k k1 k2 k3 r : Int} (ha1 : a1 = l1.map i64) (hb1 : b1 = m1.map i64) (ha2 : a2 = l2.map i64) (hb2 : b2 = m2.map i64) (hl : len8 1048576 (((s1, l1), (t1, m1)), ((s2, l2), (t2, m2)))) (hk : 0 ≤ k ∧ k ≤ 2000000000000000000) (hk1 : k1 = onFrom l1.length k) (hk2 : k2 = onFrom m1.length k1) (hk3 : k3 = onFrom l2.length k2) (hc1 : c1 = (countUp l1.length k).map i64) (hd1 : d1 = (countUp m1.length k1).map i64) (hc2 : c2 = (countUp l2.length k2).map i64) (hd2 : d2 = (countUp m2.length k3).map i64) (hr : r = onFrom m2.length k3) : Does Tryz.prog 23 [ppv s1 a1 t1 b1 s2 a2 t2 b2, i64 k] (.pv (i64 r)) [ppv s1 c1 t1 d1 s2 c2 t2 d2] := by
  refine does_of hT hM Tryz.func23 rfl (D := []) (by kernel_rfl) rfl rfl rfl (fun A K hA hK => ?_)
  have e1 := onFrom_le hk hl.1.1
  rw [← hk1] at e1
  have e2 := onFrom_le e1 hl.1.2
  rw [← hk2] at e2
  have e3 := onFrom_le e2 hl.2.1
  rw [← hk3] at e3
  have d1' := d_laws_markRat (s := s1) (t := t1) (d := d1) (k := k) (r := k2) ha1 hb1 hl.1 ⟨hk.1, by omega⟩ hc1 (by rw [hd1, hk1]) (by rw [hk2, hk1])
  have d2' := d_laws_markRat (s := s2) (t := t2) (d := d2) (k := k2) (r := r) ha2 hb2 hl.2 ⟨e2.1, by omega⟩ hc2 (by rw [hd2, hk3]) (by rw [hr, hk3])
  have n1 : c1.length = a1.length := by rw [hc1, ha1]; simp [countUp_len]
  have n2 : d1.length = b1.length := by rw [hd1, hb1]; simp [countUp_len]
  have n3 : c2.length = a2.length := by rw [hc2, ha2]; simp [countUp_len]
  have n4 : d2.length = b2.length := by rw [hd2, hb2]; simp [countUp_len]
  clear ha1 hb1 ha2 hb2 hl hc1 hd1 hc2 hd2 hr hk hk1 hk2 hk3 e1 e2 e3
  cbv
  refine Ar.call_ hA c_laws_markRat d1' rfl ?_
  cbv
  refine Ar.call_ hA c_laws_markRat d2' rfl ?_
  cbv
  refine Ar.same_ hA (by omega) ?_
  cbv
  refine Ar.same_ hA (by omega) ?_
  cbv
  refine Ar.same_ hA (by omega) ?_
  cbv
  refine Ar.same_ hA (by omega) ?_
  cbv
  exact hK _ _ rfl rfl

theorem c_laws_heldBig : Callable Tryz.prog 45 := ⟨_, Tryz.func45, rfl, by kernel_rfl⟩
theorem d_laws_heldBig {s : Bool} {c : List PV} {n : Nat} {k r : Int} (hc : c = (countUp n k).map i64) (hb : n ≤ 1048576) (hk : 0 ≤ k ∧ k ≤ 4000000000000000000) (hr : r = onFrom n k) : Does Tryz.prog 45 [.agg [bl s, .sl c], i64 k] (.pv (i64 r)) [] := by
  refine does_of hT hM Tryz.func45 rfl (D := []) (by kernel_rfl) rfl rfl rfl (fun A K hA hK => ?_)
  have d := d_laws_heldIntS hc hb ⟨hk.1, by omega⟩
  have h1 := onFrom_le hk hb
  rw [← hr] at d h1
  clear hc hb hk hr
  cbv
  refine Ar.call_ hA c_laws_heldIntS d rfl ?_
  cbv
  refine Ar.lss_ hA (fun h => absurd h (by omega)) (fun _ => ?_)
  cbv
  exact hK _ _ rfl rfl

theorem c_laws_heldRat : Callable Tryz.prog 17 := ⟨_, Tryz.func17, rfl, by kernel_rfl⟩
theorem d_laws_heldRat {s t : Bool} {c d : List PV} {n m : Nat} {k k1 r : Int} (hn : n ≤ 1048576) (hm : m ≤ 1048576) (hk : 0 ≤ k ∧ k ≤ 3000000000000000000) (hk1 : k1 = onFrom n k) (hc : c = (countUp n k).map i64) (hd : d = (countUp m k1).map i64) (hr : r = onFrom m k1) : Does Tryz.prog 17 [.agg [bl s, .sl c, bl t, .sl d], i64 k] (.pv (i64 r)) [] := by
  refine does_of hT hM Tryz.func17 rfl (D := []) (by kernel_rfl) rfl rfl rfl (fun A K hA hK => ?_)
  have e1 := onFrom_le hk hn
  rw [← hk1] at e1
  have e2 := onFrom_le e1 hm
  rw [← hr] at e2
  have d1 := d_laws_heldBig (s := s) hc hn ⟨hk.1, by omega⟩ hk1
  have d2 := d_laws_heldBig (s := t) hd hm ⟨e1.1, by omega⟩ hr
  clear hn hm hk hk1 hc hd hr
  cbv
  refine Ar.call_ hA c_laws_heldBig d1 rfl ?_
  cbv
  refine Ar.lss_ hA (fun h => absurd h (by omega)) (fun _ => ?_)
  cbv
  refine Ar.call_ hA c_laws_heldBig d2 rfl ?_
  cbv
  refine Ar.lss_ hA (fun h => absurd h (by omega)) (fun _ => ?_)
  cbv
  exact hK _ _ rfl rfl

theorem c_laws_heldRPt : Callable Tryz.prog 24 := ⟨_, Tryz.func24, rfl, by kernel_rfl⟩
theorem d_laws_heldRPt {s1 t1 s2 t2 : Bool} {c1 d1 c2 d2 : List PV} {n1 m1 n2 m2 : Nat} {k k1 k2 k3 r : Int} (hn1 : n1 ≤ 1048576) (hm1 : m1 ≤ 1048576) (hn2 : n2 ≤ 1048576) (hm2 : m2 ≤ 1048576) (hk : 0 ≤ k ∧ k ≤ 2000000000000000000) (hk1 : k1 = onFrom n1 k) (hk2 : k2 = onFrom m1 k1) (hk3 : k3 = onFrom n2 k2) (hc1 : c1 = (countUp n1 k).map i64) (hd1 : d1 = (countUp m1 k1).map i64) (hc2 : c2 = (countUp n2 k2).map i64) (hd2 : d2 = (countUp m2 k3).map i64) (hr : r = onFrom m2 k3) : Does Tryz.prog 24 [ppv s1 c1 t1 d1 s2 c2 t2 d2, i64 k] (.pv (i64 r)) [] := by
  refine does_of hT hM Tryz.func24 rfl (D := []) (by kernel_rfl) rfl rfl rfl (fun A K hA hK => ?_)
  have e1 := onFrom_le hk hn1
  rw [← hk1] at e1
  have e2 := onFrom_le e1 hm1
  rw [← hk2] at e2
  have e3 := onFrom_le e2 hn2
  rw [← hk3] at e3
  have e4 := onFrom_le e3 hm2
  rw [← hr] at e4
  have d1' := d_laws_heldRat (s := s1) (t := t1) hn1 hm1 ⟨hk.1, by omega⟩ hk1 hc1 hd1 hk2
  have d2' := d_laws_heldRat (s := s2) (t := t2) hn2 hm2 ⟨e2.1, by omega⟩ hk3 hc2 hd2 hr
  clear hn1 hm1 hn2 hm2 hk hk1 hk2 hk3 hc1 hd1 hc2 hd2 hr
  cbv
  refine Ar.call_ hA c_laws_heldRat d1' rfl ?_
  cbv
  refine Ar.lss_ hA (fun h => absurd h (by omega)) (fun _ => ?_)
  cbv
  refine Ar.call_ hA c_laws_heldRat d2' rfl ?_
  cbv
  refine Ar.lss_ hA (fun h => absurd h (by omega)) (fun _ => ?_)
  cbv
  exact hK _ _ rfl rfl

/-- A point before it is filled. -/
abbrev zpt : PV := .agg [bl false, .val (.slice none 0 0), bl false, .val (.slice none 0 0), bl false, .val (.slice none 0 0), bl false, .val (.slice none 0 0)]

theorem fill_get {es : List PV} {z : PV} {m j : Nat} (hj : j < m) (hl : es.length = m) : (es.take j ++ List.replicate (m - j) z)[j]? = some z := by
  rw [List.getElem?_append_right (by simp; omega)]
  have : j - (es.take j).length = 0 := by simp; omega
  rw [this]
  simp [List.getElem?_replicate]; omega

end Go.VAI
