/- DERIVED. Chapter 21: slices.CompareFunc, pred.order, pred.Compare, pred.Same. · DERIVED. The document's reader of forms (layer 7): num, signed, text, value. · DERIVED. The document's reader of forms (layer 7), from any state: num, text, value. -/
import Derived.Test.YtiednihagnehlaaY11
import Derived.Test.YtiednihagnehlaaY08
namespace Go.Proofs.Ytiednihagnehlaa
open Go.RowKit

set_option maxRecDepth 100000 in
set_option maxHeartbeats 4000000 in
theorem cmp_vals_any (v v' : Value) (l m : List Val) (w : World) (h : SeesR w 4 valL v l) (h' : SeesR w 4 valL v' m) :
  Calls Try.prog 93 #[v, v', .func (.func 92) #[] #[]] w fun e w' => (∃ z : Int, e = .returned (.int .i64 z) ∧ (z = 0 ↔ l = m)) ∧ Old w w' := by
 obtain ⟨p, c, rfl, hb1, hb2⟩ := h.len
 obtain ⟨p', c', rfl, hb3, hb4⟩ := h'.len
 have hmm : l.length ≤ 9223372036854775807 := by unfold maxLen at hb2; omega
 have hmm' : m.length ≤ 9223372036854775807 := by unfold maxLen at hb4; omega
 clear hb1 hb2 hb3 hb4
 have H := Lib.hid (And.intro h (And.intro h' trivial))
 clear h h'
 go_enter Try.func93, Try.ntmps93
 go_wp2_with fail
 go_loopw [7, 8, 9, 10, 13] (fun _ _ _ _ v13 wr => ∃ i : Nat, i ≤ l.length ∧ i ≤ m.length ∧ v13 = .int .i64 i ∧ (l).take i = (m).take i ∧ Old w wr) (fun _ _ _ _ v13 _ => l.length - (intOf v13).toNat)
 case atStart => exact ⟨0, by omega, by omega, rfl, rfl, Keeps.refl _ _⟩
 case round =>
  obtain ⟨i, hi, hi', rfl, hr, hk⟩ := hrel
  have HR := Lib.hid (And.intro hr hk)
  clear hr
  by_cases hlt : i < l.length
  ·obtain ⟨b, o, cc, he, _, _, hc⟩ := H.out.1.at (by omega)
   simp only [Value.slice.injEq, true_and] at he
   obtain ⟨rfl, rfl⟩ := he
   obtain ⟨x, hx⟩ : ∃ x, l[i]? = some x := ⟨_, List.getElem?_eq_getElem hlt⟩
   have i1 : (0 : Int) ≤ (i : Int) := by omega
   have i2 : (i : Int) < (l.length : Int) := by omega
   by_cases hlm : i < m.length
   ·obtain ⟨b', o', cc', he', _, _, hc'⟩ := H.out.2.1.at (by omega)
    simp only [Value.slice.injEq, true_and] at he'
    obtain ⟨rfl, rfl⟩ := he'
    obtain ⟨y, hy⟩ : ∃ y, m[i]? = some y := ⟨_, List.getElem?_eq_getElem hlm⟩
    have i3 : (i : Int) < (m.length : Int) := by omega
    have C := fun W (_ : Old wr W) => whole_any x y W
    obtain ⟨xk, xn, xs, xb⟩ := x
    obtain ⟨yk, yn, ys, yb⟩ := y
    unfold Val.cells at C
    simp only at C
    have cx := fun j u (hu : (valL ⟨xk, xn, xs, xb⟩)[j]? = some u) => hk.cell (hc i _ hx j u hu) (fun f => f)
    have cy := fun W (kw : Old wr W) j u (hu : (valL ⟨yk, yn, ys, yb⟩)[j]? = some u) => (hk.trans kw).cell (hc' i _ hy j u hu) (fun f => f)
    have x0 := cx 0 _ rfl
    have x1 := cx 1 _ rfl
    have x2 := cx 2 _ rfl
    have x3 := cx 3 _ rfl
    simp only [Nat.add_zero] at x0
    obtain ⟨Wz, hWz⟩ : ∃ Wz, wr.alloc (.cells #[.int .i64 0, .int .i64 0, .string ⟨#[]⟩, .bool false] 66) = Wz := ⟨_, rfl⟩
    have kz : Old wr Wz := by rw [← hWz]; exact (Keeps.refl _ _).alloc _
    have bz : Wz.heap[wr.heap.size]? = some (.cells #[.int .i64 0, .int .i64 0, .string ⟨#[]⟩, .bool false] 66 (0, 0)) := by rw [← hWz]; exact heap_alloc_new _ _
    have gz := blk4 bz
    obtain ⟨W1, hW1⟩ : ∃ W1, (((Wz.setCell ⟨wr.heap.size, 0, none⟩ (.int .i64 xk)).setCell ⟨wr.heap.size, 1, none⟩ (.int .i64 xn)).setCell ⟨wr.heap.size, 2, none⟩ (.string xs)).setCell ⟨wr.heap.size, 3, none⟩ (.bool xb) = W1 := ⟨_, rfl⟩
    have kk1 : Keeps (fun k => k = wr.heap.size) Wz W1 := by rw [← hW1]; exact keepS _ (keepS _ (keepS _ (keepS _ (Keeps.refl _ _))))
    have k1 : Old wr W1 := kz.then kk1 (fun i hi e => by omega)
    have b1 : W1.heap[wr.heap.size]? = some (.cells #[.int .i64 xk, .int .i64 xn, .string xs, .bool xb] 66 (0, 0)) := by rw [← hW1]; exact set4 bz
    have y0 := cy W1 k1 0 _ rfl
    have y1 := cy W1 k1 1 _ rfl
    have y2 := cy W1 k1 2 _ rfl
    have y3 := cy W1 k1 3 _ rfl
    simp only [Nat.add_zero] at y0
    obtain ⟨Wy, hWy⟩ : ∃ Wy, W1.alloc (.cells #[.int .i64 0, .int .i64 0, .string ⟨#[]⟩, .bool false] 66) = Wy := ⟨_, rfl⟩
    have ky : Old W1 Wy := by rw [← hWy]; exact (Keeps.refl _ _).alloc _
    have bq : Wy.heap[W1.heap.size]? = some (.cells #[.int .i64 0, .int .i64 0, .string ⟨#[]⟩, .bool false] 66 (0, 0)) := by rw [← hWy]; exact heap_alloc_new _ _
    have gy := blk4 bq
    obtain ⟨W2, hW2⟩ : ∃ W2, (((Wy.setCell ⟨W1.heap.size, 0, none⟩ (.int .i64 yk)).setCell ⟨W1.heap.size, 1, none⟩ (.int .i64 yn)).setCell ⟨W1.heap.size, 2, none⟩ (.string ys)).setCell ⟨W1.heap.size, 3, none⟩ (.bool yb) = W2 := ⟨_, rfl⟩
    have kk2 : Keeps (fun k => k = W1.heap.size) Wy W2 := by rw [← hW2]; exact keepS _ (keepS _ (keepS _ (keepS _ (Keeps.refl _ _))))
    have k2 : Old W1 W2 := ky.then kk2 (fun i hi e => by omega)
    have b2 : W2.heap[W1.heap.size]? = some (.cells #[.int .i64 yk, .int .i64 yn, .string ys, .bool yb] 66 (0, 0)) := by rw [← hW2]; exact set4 bq
    have b12 := (k2.block _ (lt_of_heap b1) (fun f => f)).trans b1
    have g1 := blk4 b12
    have g2 := blk4 b2
    have HC := Lib.hid (C W2 (k1.trans k2))
    have HW1 := Lib.hid hW1
    have HW2 := Lib.hid hW2
    have KW := Lib.hid (And.intro (hk.trans (k1.trans k2)) (And.intro hx hy))
    clear cx cy hc hc' hk C kz bz kk1 k1 b1 ky bq kk2 k2 b2 b12 hx hy hW1 hW2
    go_upto_region 4 with fail
    try rw [HW1.out]
    clear x0 x1 x2 x3 hWz
    go_upto_region 7 with fail
    try rw [HW2.out]
    clear y0 y1 y2 y3 hWy gz gy
    go_wp2_with fail
    refine HC.out.mono ?_
    rintro e w3 ⟨⟨z, rfl, hz⟩, k3⟩
    have K3 := Lib.hid (And.intro (KW.out.1.trans k3) hz)
    clear k3 HC hz
    by_cases hz0 : z = 0
    ·have t : (z != 0) = false := by rw [bne_eq_false_iff_eq]; exact hz0
     have HZ := Lib.hid hz0
     clear hz0
     go_wp2_with fail
     go_roundw
     case rel => exact ⟨i + 1, by omega, by omega, by go_num, take_next HR.out.1 (x := ⟨xk, xn, xs, xb⟩) (by simp [KW.out.2.1]) (by simp [KW.out.2.2, ← K3.out.2.1 HZ.out]), K3.out.1⟩
     case measure => simp [intOf]; omega
    ·have t : (z != 0) = true := by rw [bne_iff_ne]; exact hz0
     have HZ := Lib.hid hz0
     clear hz0
     go_wp2_with fail
     go_ret
     refine ⟨⟨z, rfl, ⟨fun h => absurd h HZ.out, fun g => ?_⟩⟩, K3.out.1⟩
     have e := congrArg (fun l => l[i]?) g
     simp only [KW.out.2.1, KW.out.2.2, Option.some.injEq] at e
     exact K3.out.2.2 e
   ·have t : decide ((m.length : Int) ≤ (i : Int)) = true := by simp; omega
    have t' : decide (m.length ≤ i) = true := by simp; omega
    obtain ⟨xk, xn, xs, xb⟩ := x
    have cx := fun j u (hu : (valL ⟨xk, xn, xs, xb⟩)[j]? = some u) => hk.cell (hc i _ hx j u hu) (fun f => f)
    have x0 := cx 0 _ rfl
    have x1 := cx 1 _ rfl
    have x2 := cx 2 _ rfl
    have x3 := cx 3 _ rfl
    simp only [Nat.add_zero] at x0
    obtain ⟨Wz, hWz⟩ : ∃ Wz, wr.alloc (.cells #[.int .i64 0, .int .i64 0, .string ⟨#[]⟩, .bool false] 66) = Wz := ⟨_, rfl⟩
    have kz : Old wr Wz := by rw [← hWz]; exact (Keeps.refl _ _).alloc _
    have bz : Wz.heap[wr.heap.size]? = some (.cells #[.int .i64 0, .int .i64 0, .string ⟨#[]⟩, .bool false] 66 (0, 0)) := by rw [← hWz]; exact heap_alloc_new _ _
    have gz := blk4 bz
    obtain ⟨W1, hW1⟩ : ∃ W1, (((Wz.setCell ⟨wr.heap.size, 0, none⟩ (.int .i64 xk)).setCell ⟨wr.heap.size, 1, none⟩ (.int .i64 xn)).setCell ⟨wr.heap.size, 2, none⟩ (.string xs)).setCell ⟨wr.heap.size, 3, none⟩ (.bool xb) = W1 := ⟨_, rfl⟩
    have kk1 : Keeps (fun k => k = wr.heap.size) Wz W1 := by rw [← hW1]; exact keepS _ (keepS _ (keepS _ (keepS _ (Keeps.refl _ _))))
    have k1 : Old wr W1 := kz.then kk1 (fun i hi e => by omega)
    have HW1 := Lib.hid hW1
    have KW := Lib.hid (hk.trans k1)
    clear cx hc hk kz bz kk1 k1 hx hW1
    go_upto_region 4 with fail
    try rw [HW1.out]
    clear x0 x1 x2 x3 hWz gz
    go_wp2_with fail
    go_ret
    refine ⟨⟨1, rfl, ⟨fun h => by omega, fun g => ?_⟩⟩, KW.out⟩
    have e := congrArg List.length g
    try simp at e
    omega
  ·by_cases hlm : l.length < m.length
   ·have t : decide ((l.length : Int) < (m.length : Int)) = true := by simp; omega
    have t' : decide (l.length < m.length) = true := by simp; omega
    clear hk
    go_wp2_with fail
    go_ret
    refine ⟨⟨-1, rfl, ⟨fun h => by omega, fun g => ?_⟩⟩, HR.out.2⟩
    have e := congrArg List.length g
    try simp at e
    omega
   ·have t : decide ((l.length : Int) < (m.length : Int)) = false := by simp; omega
    have t' : decide (l.length < m.length) = false := by simp; omega
    clear hk
    go_wp2_with fail
    go_ret
    refine ⟨⟨0, rfl, ⟨fun _ => ?_, fun _ => rfl⟩⟩, HR.out.2⟩
    have e := HR.out.1
    rw [List.take_of_length_le (by first | omega | (simp; omega)), List.take_of_length_le (by first | omega | (simp; omega))] at e
    exact e

set_option maxRecDepth 100000 in
set_option maxHeartbeats 4000000 in
theorem order_any (a a' : Con) (w : World) (h : SeesV w a.sv a.set) (h' : SeesV w a'.sv a'.set) : Calls Try.prog 77 #[.agg a.cells.toArray, .agg a'.cells.toArray] w fun e w' => (∃ z : Int, e = .returned (.int .i64 z) ∧ (z = 0 ↔ a.plain = a'.plain)) ∧ Old w w' := by
 have CW := fun W => whole_any a.val a'.val W
 have CL := fun W (k : Old w W) => cmp_vals_any a.sv a'.sv a.set a'.set W (h.old k) (h'.old k)
 obtain ⟨nm, op, ⟨k, n, s, b⟩, sv, set⟩ := a
 obtain ⟨nm', op', ⟨k', n', s', b'⟩, sv', set'⟩ := a'
 obtain ⟨p, c, e1, _, _⟩ := h.len
 obtain ⟨p', c', e2, _, _⟩ := h'.len
 simp only at e1 e2
 subst e1 e2
 unfold Con.cells Con.plain
 unfold Val.cells at CW
 simp only at CW CL ⊢
 have HC := Lib.hid (And.intro CW CL)
 clear CW CL h h'
 obtain ⟨W0, hW0⟩ : ∃ W0, (w.alloc (.cells #[.string nm, .int .i64 op, .int .i64 k, .int .i64 n, .string s, .bool b, .slice p set.length c] 69)).alloc (.cells #[.string nm', .int .i64 op', .int .i64 k', .int .i64 n', .string s', .bool b', .slice p' set'.length c'] 69) = W0 := ⟨_, rfl⟩
 have k0 : Old w W0 := by rw [← hW0]; exact ((Keeps.refl _ _).alloc _).alloc _
 obtain ⟨b0, b1⟩ := two_blocks w (.cells #[.string nm, .int .i64 op, .int .i64 k, .int .i64 n, .string s, .bool b, .slice p set.length c] 69) (.cells #[.string nm', .int .i64 op', .int .i64 k', .int .i64 n', .string s', .bool b', .slice p' set'.length c'] 69)
 rw [hW0] at b0 b1
 have B := Lib.hid (And.intro k0 (And.intro b0 b1))
 clear k0 b0 b1
 go_enter Try.func77, Try.ntmps77
 go_wp2_with fail
 refine wp_region_g (S := fun W' => Old W0 W') (M := List.range 23) (by kernel_rfl) ?_
 have hS : Old W0 W0.drew := (Keeps.refl _ _).drew
 refine wpAnyG_takeL (i := 0) (oi := _) (v := ?va0) rfl (by kernel_rfl) (by kernel_rfl) (by kernel_rfl) (by kernel_rfl) (fun _ _ _ h => h) (Or.inl ⟨by rfl, ?ya0⟩) hS ?ra0
 case ya0 => (intro W hSw; go_simp; try with_reducible rfl)
 try simp only [Act.put, List.setIfInBounds_toArray, List.set_cons_zero, List.set_cons_succ]
 refine wpAnyG_takeL (i := 1) (oi := _) (v := ?va1) rfl (by kernel_rfl) (by kernel_rfl) (by kernel_rfl) (by kernel_rfl) (fun _ _ _ h => h) (Or.inl ⟨by rfl, ?ya1⟩) hS ?ra1
 case ya1 => (intro W hSw; have tt := blk7 ((hSw.block _ (lt_of_heap B.out.2.1) (fun f => f)).trans B.out.2.1); go_simp; try with_reducible rfl)
 try simp only [Act.put, List.setIfInBounds_toArray, List.set_cons_zero, List.set_cons_succ]
 refine wpAnyG_takeL (i := 2) (oi := _) (v := ?va2) rfl (by kernel_rfl) (by kernel_rfl) (by kernel_rfl) (by kernel_rfl) (fun _ _ _ h => h) (Or.inl ⟨by rfl, ?ya2⟩) hS ?ra2
 case ya2 => (intro W hSw; go_simp; try with_reducible rfl)
 try simp only [Act.put, List.setIfInBounds_toArray, List.set_cons_zero, List.set_cons_succ]
 refine wpAnyG_takeL (i := 3) (oi := _) (v := ?va3) rfl (by kernel_rfl) (by kernel_rfl) (by kernel_rfl) (by kernel_rfl) (fun _ _ _ h => h) (Or.inl ⟨by rfl, ?ya3⟩) hS ?ra3
 case ya3 => (intro W hSw; have tt := blk7 ((hSw.block _ (lt_of_heap B.out.2.2) (fun f => f)).trans B.out.2.2); go_simp; try with_reducible rfl)
 try simp only [Act.put, List.setIfInBounds_toArray, List.set_cons_zero, List.set_cons_succ]
 refine wpAnyG_takeL (i := 5) (oi := _) (v := ?va5) rfl (by kernel_rfl) (by kernel_rfl) (by kernel_rfl) (by kernel_rfl) (fun _ _ _ h => h) (Or.inl ⟨by rfl, ?ya5⟩) hS ?ra5
 case ya5 => (intro W hSw; go_simp; try with_reducible rfl)
 try simp only [Act.put, List.setIfInBounds_toArray, List.set_cons_zero, List.set_cons_succ]
 refine wpAnyG_takeL (i := 6) (oi := _) (v := ?va6) rfl (by kernel_rfl) (by kernel_rfl) (by kernel_rfl) (by kernel_rfl) (fun _ _ _ h => h) (Or.inl ⟨by rfl, ?ya6⟩) hS ?ra6
 case ya6 => (intro W hSw; have tt := blk7 ((hSw.block _ (lt_of_heap B.out.2.1) (fun f => f)).trans B.out.2.1); go_simp; try with_reducible rfl)
 try simp only [Act.put, List.setIfInBounds_toArray, List.set_cons_zero, List.set_cons_succ]
 refine wpAnyG_takeL (i := 7) (oi := _) (v := ?va7) rfl (by kernel_rfl) (by kernel_rfl) (by kernel_rfl) (by kernel_rfl) (fun _ _ _ h => h) (Or.inl ⟨by rfl, ?ya7⟩) hS ?ra7
 case ya7 => (intro W hSw; go_simp; try with_reducible rfl)
 try simp only [Act.put, List.setIfInBounds_toArray, List.set_cons_zero, List.set_cons_succ]
 refine wpAnyG_takeL (i := 8) (oi := _) (v := ?va8) rfl (by kernel_rfl) (by kernel_rfl) (by kernel_rfl) (by kernel_rfl) (fun _ _ _ h => h) (Or.inl ⟨by rfl, ?ya8⟩) hS ?ra8
 case ya8 => (intro W hSw; have tt := blk7 ((hSw.block _ (lt_of_heap B.out.2.2) (fun f => f)).trans B.out.2.2); go_simp; try with_reducible rfl)
 try simp only [Act.put, List.setIfInBounds_toArray, List.set_cons_zero, List.set_cons_succ]
 refine wpAnyG_takeL (i := 10) (oi := _) (v := ?va10) rfl (by kernel_rfl) (by kernel_rfl) (by kernel_rfl) (by kernel_rfl) (fun _ _ _ h => h) (Or.inl ⟨by rfl, ?ya10⟩) hS ?ra10
 case ya10 => (intro W hSw; go_simp; try with_reducible rfl)
 try simp only [Act.put, List.setIfInBounds_toArray, List.set_cons_zero, List.set_cons_succ]
 refine wpAnyG_takeL (i := 11) (oi := _) (v := ?va11) rfl (by kernel_rfl) (by kernel_rfl) (by kernel_rfl) (by kernel_rfl) (fun _ _ _ h => h) (Or.inl ⟨by rfl, ?ya11⟩) hS ?ra11
 case ya11 => (intro W hSw; have tt := blk7 ((hSw.block _ (lt_of_heap B.out.2.1) (fun f => f)).trans B.out.2.1); go_simp; try with_reducible rfl)
 try simp only [Act.put, List.setIfInBounds_toArray, List.set_cons_zero, List.set_cons_succ]
 refine wpAnyG_takeL (i := 12) (oi := _) (v := ?va12) rfl (by kernel_rfl) (by kernel_rfl) (by kernel_rfl) (by kernel_rfl) (fun _ _ _ h => h) (Or.inl ⟨by rfl, ?ya12⟩) hS ?ra12
 case ya12 => (intro W hSw; go_simp; try with_reducible rfl)
 try simp only [Act.put, List.setIfInBounds_toArray, List.set_cons_zero, List.set_cons_succ]
 refine wpAnyG_takeL (i := 13) (oi := _) (v := ?va13) rfl (by kernel_rfl) (by kernel_rfl) (by kernel_rfl) (by kernel_rfl) (fun _ _ _ h => h) (Or.inl ⟨by rfl, ?ya13⟩) hS ?ra13
 case ya13 => (intro W hSw; have tt := blk7 ((hSw.block _ (lt_of_heap B.out.2.2) (fun f => f)).trans B.out.2.2); go_simp; try with_reducible rfl)
 try simp only [Act.put, List.setIfInBounds_toArray, List.set_cons_zero, List.set_cons_succ]
 refine wpAnyG_takeL (i := 15) (oi := _) (v := ?va15) rfl (by kernel_rfl) (by kernel_rfl) (by kernel_rfl) (by kernel_rfl) (fun _ _ _ h => h) (Or.inl ⟨by rfl, ?ya15⟩) hS ?ra15
 case ya15 => (intro W hSw; go_simp; try with_reducible rfl)
 try simp only [Act.put, List.setIfInBounds_toArray, List.set_cons_zero, List.set_cons_succ]
 refine wpAnyG_takeL (i := 16) (oi := _) (v := ?va16) rfl (by kernel_rfl) (by kernel_rfl) (by kernel_rfl) (by kernel_rfl) (fun _ _ _ h => h) (Or.inl ⟨by rfl, ?ya16⟩) hS ?ra16
 case ya16 => (intro W hSw; have tt := blk7 ((hSw.block _ (lt_of_heap B.out.2.1) (fun f => f)).trans B.out.2.1); go_simp; try with_reducible rfl)
 try simp only [Act.put, List.setIfInBounds_toArray, List.set_cons_zero, List.set_cons_succ]
 refine wpAnyG_takeL (i := 17) (oi := _) (v := ?va17) rfl (by kernel_rfl) (by kernel_rfl) (by kernel_rfl) (by kernel_rfl) (fun _ _ _ h => h) (Or.inl ⟨by rfl, ?ya17⟩) hS ?ra17
 case ya17 => (intro W hSw; go_simp; try with_reducible rfl)
 try simp only [Act.put, List.setIfInBounds_toArray, List.set_cons_zero, List.set_cons_succ]
 refine wpAnyG_takeL (i := 18) (oi := _) (v := ?va18) rfl (by kernel_rfl) (by kernel_rfl) (by kernel_rfl) (by kernel_rfl) (fun _ _ _ h => h) (Or.inl ⟨by rfl, ?ya18⟩) hS ?ra18
 case ya18 => (intro W hSw; have tt := blk7 ((hSw.block _ (lt_of_heap B.out.2.2) (fun f => f)).trans B.out.2.2); go_simp; try with_reducible rfl)
 try simp only [Act.put, List.setIfInBounds_toArray, List.set_cons_zero, List.set_cons_succ]
 refine wpAnyG_onlyL (i := 4) (o := _) (by kernel_rfl) rfl (fun K hK => ?_)
 go_simp
 refine (cmp_str_any _ _ _).mono ?_
 rintro e w1 ⟨rfl, rfl⟩
 go_wp2_with fail
 refine hK.out _ _ (fun _ => hS) ?_
 clear hK K
 try simp only [Act.put, List.setIfInBounds_toArray, List.set_cons_zero, List.set_cons_succ]
 refine wpAnyG_onlyL (i := 9) (o := _) (by kernel_rfl) rfl (fun K hK => ?_)
 go_simp
 refine (cmp_int_any _ _ _).mono ?_
 rintro e w2 ⟨rfl, rfl⟩
 go_wp2_with fail
 refine hK.out _ _ (fun _ => hS) ?_
 clear hK K
 try simp only [Act.put, List.setIfInBounds_toArray, List.set_cons_zero, List.set_cons_succ]
 refine wpAnyG_onlyL (i := 14) (o := _) (by kernel_rfl) rfl (fun K hK => ?_)
 go_simp
 refine (HC.out.1 _).mono ?_
 rintro e w3 ⟨⟨z3, rfl, hz3⟩, k3⟩
 have hS3 : Old W0 w3 := hS.trans k3
 clear k3
 go_wp2_with fail
 refine hK.out _ _ (fun _ => hS3) ?_
 clear hK K
 try simp only [Act.put, List.setIfInBounds_toArray, List.set_cons_zero, List.set_cons_succ]
 refine wpAnyG_onlyL (i := 19) (o := _) (by kernel_rfl) rfl (fun K hK => ?_)
 go_simp
 refine (HC.out.2 _ (B.out.1.trans hS3)).mono ?_
 rintro e w4 ⟨⟨z4, rfl, hz4⟩, k4⟩
 have hS4 : Old W0 w4 := hS3.trans k4
 clear k4
 go_wp2_with fail
 refine hK.out _ _ (fun _ => hS4) ?_
 clear hK K
 try simp only [Act.put, List.setIfInBounds_toArray, List.set_cons_zero, List.set_cons_succ]
 refine wpAnyG_onlyL (i := 20) (o := _) (by kernel_rfl) rfl (fun K hK => ?_)
 go_simp
 obtain ⟨z1, hz1⟩ : ∃ z, strZ nm nm' = z := ⟨_, rfl⟩
 obtain ⟨z2, hz2⟩ : ∃ z, cmpZ op op' = z := ⟨_, rfl⟩
 rw [hz1, hz2]
 have SN : SeesR (w4.alloc (.cells #[.int .i64 z1, .int .i64 z2, .int .i64 z3, .int .i64 z4] 3)) 1 intL (.slice (some ⟨w4.heap.size, 0, none⟩) 4 4) [z1, z2, z3, z4] := SeesR.new (k := 1) (enc := intL) w4 _ (0, 0) [z1, z2, z3, z4] _ (by rfl) (fun _ => rfl) (by unfold maxLen; simp)
 have hS7 : Old W0 (w4.alloc (.cells #[.int .i64 z1, .int .i64 z2, .int .i64 z3, .int .i64 z4] 3)) := hS4.alloc _
 refine hK.out _ _ (fun _ => hS7) ?_
 clear hK K
 try simp only [Act.put, List.setIfInBounds_toArray, List.set_cons_zero, List.set_cons_succ]
 refine wpAnyG_onlyL (i := 21) (o := _) (by kernel_rfl) rfl (fun K hK => ?_)
 go_simp
 refine (or_int_any _ _ _ SN).mono ?_
 rintro e w8 ⟨⟨z, rfl, hz⟩, k8⟩
 have hS8 : Old W0 w8 := hS7.trans k8
 clear k8
 go_wp2_with fail
 refine hK.out _ _ (fun _ => hS8) ?_
 clear hK K
 try simp only [Act.put, List.setIfInBounds_toArray, List.set_cons_zero, List.set_cons_succ]
 refine wpAnyG_takeL (i := 22) (oi := _) (v := ?va22) rfl (by kernel_rfl) (by kernel_rfl) (by kernel_rfl) (by kernel_rfl) (fun _ _ _ h => h) (Or.inl ⟨by rfl, ?ya22⟩) hS8 ?ra22
 case ya22 => (intro W hSw; go_simp; try with_reducible rfl)
 try simp only [Act.put, List.setIfInBounds_toArray, List.set_cons_zero, List.set_cons_succ]
 refine wpAnyG_done (by kernel_rfl) ?_ _
 go_simp
 have hzz : z = 0 ↔ (⟨nm, op, ⟨k, n, s, b⟩, set⟩ : PCon) = ⟨nm', op', ⟨k', n', s', b'⟩, set'⟩ := by
  rw [hz]
  simp only [List.mem_cons, List.not_mem_nil, or_false, forall_eq_or_imp, forall_eq, PCon.mk.injEq]
  rw [← hz1, ← hz2, strZ_zero, cmpZ_zero, hz3, hz4]
 have R := Lib.hid (And.intro hzz (B.out.1.trans hS8))
 clear hz hS hS3 hS4 hS7 hS8 SN hz1 hz2 hz3 hz4 hzz
 go_wp2_with fail
 go_ret
 exact ⟨⟨z, rfl, R.out.1⟩, R.out.2⟩

set_option maxRecDepth 100000 in
set_option maxHeartbeats 4000000 in
theorem cmp_cons_any (v v' : Value) (l m : List Con) (w : World) (h : SeesR w 7 Con.cells v l) (h' : SeesR w 7 Con.cells v' m) (hf : ∀ x ∈ l, SeesV w x.sv x.set) (hf' : ∀ x ∈ m, SeesV w x.sv x.set) :
  Calls Try.prog 76 #[v, v', .func (.func 77) #[] #[]] w fun e w' => (∃ z : Int, e = .returned (.int .i64 z) ∧ (z = 0 ↔ l.map Con.plain = m.map Con.plain)) ∧ Old w w' := by
 obtain ⟨p, c, rfl, hb1, hb2⟩ := h.len
 obtain ⟨p', c', rfl, hb3, hb4⟩ := h'.len
 have hmm : l.length ≤ 9223372036854775807 := by unfold maxLen at hb2; omega
 have hmm' : m.length ≤ 9223372036854775807 := by unfold maxLen at hb4; omega
 clear hb1 hb2 hb3 hb4
 have H := Lib.hid (And.intro h (And.intro h' (And.intro hf hf')))
 clear h h' hf hf'
 go_enter Try.func76, Try.ntmps76
 go_wp2_with fail
 go_loopw [7, 8, 9, 10, 13] (fun _ _ _ _ v13 wr => ∃ i : Nat, i ≤ l.length ∧ i ≤ m.length ∧ v13 = .int .i64 i ∧ (l.map Con.plain).take i = (m.map Con.plain).take i ∧ Old w wr) (fun _ _ _ _ v13 _ => l.length - (intOf v13).toNat)
 case atStart => exact ⟨0, by omega, by omega, rfl, rfl, Keeps.refl _ _⟩
 case round =>
  obtain ⟨i, hi, hi', rfl, hr, hk⟩ := hrel
  have HR := Lib.hid (And.intro hr hk)
  clear hr
  by_cases hlt : i < l.length
  ·obtain ⟨b, o, cc, he, _, _, hc⟩ := H.out.1.at (by omega)
   simp only [Value.slice.injEq, true_and] at he
   obtain ⟨rfl, rfl⟩ := he
   obtain ⟨x, hx⟩ : ∃ x, l[i]? = some x := ⟨_, List.getElem?_eq_getElem hlt⟩
   have i1 : (0 : Int) ≤ (i : Int) := by omega
   have i2 : (i : Int) < (l.length : Int) := by omega
   by_cases hlm : i < m.length
   ·obtain ⟨b', o', cc', he', _, _, hc'⟩ := H.out.2.1.at (by omega)
    simp only [Value.slice.injEq, true_and] at he'
    obtain ⟨rfl, rfl⟩ := he'
    obtain ⟨y, hy⟩ : ∃ y, m[i]? = some y := ⟨_, List.getElem?_eq_getElem hlm⟩
    have i3 : (i : Int) < (m.length : Int) := by omega
    have sx := (H.out.2.2.1 x (List.mem_of_getElem? hx)).old hk
    have sy := (H.out.2.2.2 y (List.mem_of_getElem? hy)).old hk
    have C := fun W (k : Old wr W) => order_any x y W (sx.old k) (sy.old k)
    obtain ⟨xnm, xop, ⟨xk, xn, xs, xb⟩, xsv, xset⟩ := x
    obtain ⟨ynm, yop, ⟨yk, yn, ys, yb⟩, ysv, yset⟩ := y
    obtain ⟨q, d, e1, _, _⟩ := sx.len
    obtain ⟨q', d', e2, _, _⟩ := sy.len
    simp only at e1 e2
    subst e1 e2
    unfold Con.cells at C
    simp only at C
    have cx := fun j u (hu : (Con.cells ⟨xnm, xop, ⟨xk, xn, xs, xb⟩, .slice q xset.length d, xset⟩)[j]? = some u) => hk.cell (hc i _ hx j u hu) (fun f => f)
    have cy := fun W (kw : Old wr W) j u (hu : (Con.cells ⟨ynm, yop, ⟨yk, yn, ys, yb⟩, .slice q' yset.length d', yset⟩)[j]? = some u) => (hk.trans kw).cell (hc' i _ hy j u hu) (fun f => f)
    have x0 := cx 0 _ rfl
    have x1 := cx 1 _ rfl
    have x2 := cx 2 _ rfl
    have x3 := cx 3 _ rfl
    have x4 := cx 4 _ rfl
    have x5 := cx 5 _ rfl
    have x6 := cx 6 _ rfl
    simp only [Nat.add_zero] at x0
    obtain ⟨Wz, hWz⟩ : ∃ Wz, wr.alloc (.cells #[.string ⟨#[]⟩, .int .i64 0, .int .i64 0, .int .i64 0, .string ⟨#[]⟩, .bool false, .slice none 0 0] 69) = Wz := ⟨_, rfl⟩
    have kz : Old wr Wz := by rw [← hWz]; exact (Keeps.refl _ _).alloc _
    have bz : Wz.heap[wr.heap.size]? = some (.cells #[.string ⟨#[]⟩, .int .i64 0, .int .i64 0, .int .i64 0, .string ⟨#[]⟩, .bool false, .slice none 0 0] 69 (0, 0)) := by rw [← hWz]; exact heap_alloc_new _ _
    have gz := blk7 bz
    obtain ⟨W1, hW1⟩ : ∃ W1, ((((((Wz.setCell ⟨wr.heap.size, 0, none⟩ (.string xnm)).setCell ⟨wr.heap.size, 1, none⟩ (.int .i64 xop)).setCell ⟨wr.heap.size, 2, none⟩ (.int .i64 xk)).setCell ⟨wr.heap.size, 3, none⟩ (.int .i64 xn)).setCell ⟨wr.heap.size, 4, none⟩ (.string xs)).setCell ⟨wr.heap.size, 5, none⟩ (.bool xb)).setCell ⟨wr.heap.size, 6, none⟩ (.slice q xset.length d) = W1 := ⟨_, rfl⟩
    have kk1 : Keeps (fun k => k = wr.heap.size) Wz W1 := by rw [← hW1]; exact keepS _ (keepS _ (keepS _ (keepS _ (keepS _ (keepS _ (keepS _ (Keeps.refl _ _)))))))
    have k1 : Old wr W1 := kz.then kk1 (fun i hi e => by omega)
    have b1 : W1.heap[wr.heap.size]? = some (.cells #[.string xnm, .int .i64 xop, .int .i64 xk, .int .i64 xn, .string xs, .bool xb, .slice q xset.length d] 69 (0, 0)) := by rw [← hW1]; exact set7 bz
    have y0 := cy W1 k1 0 _ rfl
    have y1 := cy W1 k1 1 _ rfl
    have y2 := cy W1 k1 2 _ rfl
    have y3 := cy W1 k1 3 _ rfl
    have y4 := cy W1 k1 4 _ rfl
    have y5 := cy W1 k1 5 _ rfl
    have y6 := cy W1 k1 6 _ rfl
    simp only [Nat.add_zero] at y0
    obtain ⟨Wy, hWy⟩ : ∃ Wy, W1.alloc (.cells #[.string ⟨#[]⟩, .int .i64 0, .int .i64 0, .int .i64 0, .string ⟨#[]⟩, .bool false, .slice none 0 0] 69) = Wy := ⟨_, rfl⟩
    have ky : Old W1 Wy := by rw [← hWy]; exact (Keeps.refl _ _).alloc _
    have bq : Wy.heap[W1.heap.size]? = some (.cells #[.string ⟨#[]⟩, .int .i64 0, .int .i64 0, .int .i64 0, .string ⟨#[]⟩, .bool false, .slice none 0 0] 69 (0, 0)) := by rw [← hWy]; exact heap_alloc_new _ _
    have gy := blk7 bq
    obtain ⟨W2, hW2⟩ : ∃ W2, ((((((Wy.setCell ⟨W1.heap.size, 0, none⟩ (.string ynm)).setCell ⟨W1.heap.size, 1, none⟩ (.int .i64 yop)).setCell ⟨W1.heap.size, 2, none⟩ (.int .i64 yk)).setCell ⟨W1.heap.size, 3, none⟩ (.int .i64 yn)).setCell ⟨W1.heap.size, 4, none⟩ (.string ys)).setCell ⟨W1.heap.size, 5, none⟩ (.bool yb)).setCell ⟨W1.heap.size, 6, none⟩ (.slice q' yset.length d') = W2 := ⟨_, rfl⟩
    have kk2 : Keeps (fun k => k = W1.heap.size) Wy W2 := by rw [← hW2]; exact keepS _ (keepS _ (keepS _ (keepS _ (keepS _ (keepS _ (keepS _ (Keeps.refl _ _)))))))
    have k2 : Old W1 W2 := ky.then kk2 (fun i hi e => by omega)
    have b2 : W2.heap[W1.heap.size]? = some (.cells #[.string ynm, .int .i64 yop, .int .i64 yk, .int .i64 yn, .string ys, .bool yb, .slice q' yset.length d'] 69 (0, 0)) := by rw [← hW2]; exact set7 bq
    have b12 := (k2.block _ (lt_of_heap b1) (fun f => f)).trans b1
    have g1 := blk7 b12
    have g2 := blk7 b2
    have HC := Lib.hid (C W2 (k1.trans k2))
    have HW1 := Lib.hid hW1
    have HW2 := Lib.hid hW2
    have KW := Lib.hid (And.intro (hk.trans (k1.trans k2)) (And.intro hx hy))
    clear cx cy hc hc' hk C kz bz kk1 k1 b1 ky bq kk2 k2 b2 b12 hx hy hW1 hW2
    go_upto_region 4 with fail
    try rw [HW1.out]
    clear x0 x1 x2 x3 x4 x5 x6 hWz
    go_upto_region 7 with fail
    try rw [HW2.out]
    clear y0 y1 y2 y3 y4 y5 y6 hWy gz gy
    go_wp2_with fail
    refine HC.out.mono ?_
    rintro e w3 ⟨⟨z, rfl, hz⟩, k3⟩
    have K3 := Lib.hid (And.intro (KW.out.1.trans k3) hz)
    clear k3 HC hz
    by_cases hz0 : z = 0
    ·have t : (z != 0) = false := by rw [bne_eq_false_iff_eq]; exact hz0
     have HZ := Lib.hid hz0
     clear hz0
     go_wp2_with fail
     go_roundw
     case rel => exact ⟨i + 1, by omega, by omega, by go_num, take_next HR.out.1 (x := Con.plain ⟨xnm, xop, ⟨xk, xn, xs, xb⟩, .slice q xset.length d, xset⟩) (by simp [KW.out.2.1]) (by simp [KW.out.2.2, ← K3.out.2.1 HZ.out]), K3.out.1⟩
     case measure => simp [intOf]; omega
    ·have t : (z != 0) = true := by rw [bne_iff_ne]; exact hz0
     have HZ := Lib.hid hz0
     clear hz0
     go_wp2_with fail
     go_ret
     refine ⟨⟨z, rfl, ⟨fun h => absurd h HZ.out, fun g => ?_⟩⟩, K3.out.1⟩
     have e := congrArg (fun l => l[i]?) g
     simp only [List.getElem?_map, KW.out.2.1, KW.out.2.2, Option.map_some, Option.some.injEq] at e
     exact K3.out.2.2 e
   ·have t : decide ((m.length : Int) ≤ (i : Int)) = true := by simp; omega
    have t' : decide (m.length ≤ i) = true := by simp; omega
    have sx := (H.out.2.2.1 x (List.mem_of_getElem? hx)).old hk
    obtain ⟨xnm, xop, ⟨xk, xn, xs, xb⟩, xsv, xset⟩ := x
    obtain ⟨q, d, e1, _, _⟩ := sx.len
    simp only at e1
    subst e1
    have cx := fun j u (hu : (Con.cells ⟨xnm, xop, ⟨xk, xn, xs, xb⟩, .slice q xset.length d, xset⟩)[j]? = some u) => hk.cell (hc i _ hx j u hu) (fun f => f)
    have x0 := cx 0 _ rfl
    have x1 := cx 1 _ rfl
    have x2 := cx 2 _ rfl
    have x3 := cx 3 _ rfl
    have x4 := cx 4 _ rfl
    have x5 := cx 5 _ rfl
    have x6 := cx 6 _ rfl
    simp only [Nat.add_zero] at x0
    obtain ⟨Wz, hWz⟩ : ∃ Wz, wr.alloc (.cells #[.string ⟨#[]⟩, .int .i64 0, .int .i64 0, .int .i64 0, .string ⟨#[]⟩, .bool false, .slice none 0 0] 69) = Wz := ⟨_, rfl⟩
    have kz : Old wr Wz := by rw [← hWz]; exact (Keeps.refl _ _).alloc _
    have bz : Wz.heap[wr.heap.size]? = some (.cells #[.string ⟨#[]⟩, .int .i64 0, .int .i64 0, .int .i64 0, .string ⟨#[]⟩, .bool false, .slice none 0 0] 69 (0, 0)) := by rw [← hWz]; exact heap_alloc_new _ _
    have gz := blk7 bz
    obtain ⟨W1, hW1⟩ : ∃ W1, ((((((Wz.setCell ⟨wr.heap.size, 0, none⟩ (.string xnm)).setCell ⟨wr.heap.size, 1, none⟩ (.int .i64 xop)).setCell ⟨wr.heap.size, 2, none⟩ (.int .i64 xk)).setCell ⟨wr.heap.size, 3, none⟩ (.int .i64 xn)).setCell ⟨wr.heap.size, 4, none⟩ (.string xs)).setCell ⟨wr.heap.size, 5, none⟩ (.bool xb)).setCell ⟨wr.heap.size, 6, none⟩ (.slice q xset.length d) = W1 := ⟨_, rfl⟩
    have kk1 : Keeps (fun k => k = wr.heap.size) Wz W1 := by rw [← hW1]; exact keepS _ (keepS _ (keepS _ (keepS _ (keepS _ (keepS _ (keepS _ (Keeps.refl _ _)))))))
    have k1 : Old wr W1 := kz.then kk1 (fun i hi e => by omega)
    have HW1 := Lib.hid hW1
    have KW := Lib.hid (hk.trans k1)
    clear cx hc hk kz bz kk1 k1 hx hW1
    go_upto_region 4 with fail
    try rw [HW1.out]
    clear x0 x1 x2 x3 x4 x5 x6 hWz gz
    go_wp2_with fail
    go_ret
    refine ⟨⟨1, rfl, ⟨fun h => by omega, fun g => ?_⟩⟩, KW.out⟩
    have e := congrArg List.length g
    try simp at e
    omega
  ·by_cases hlm : l.length < m.length
   ·have t : decide ((l.length : Int) < (m.length : Int)) = true := by simp; omega
    have t' : decide (l.length < m.length) = true := by simp; omega
    clear hk
    go_wp2_with fail
    go_ret
    refine ⟨⟨-1, rfl, ⟨fun h => by omega, fun g => ?_⟩⟩, HR.out.2⟩
    have e := congrArg List.length g
    try simp at e
    omega
   ·have t : decide ((l.length : Int) < (m.length : Int)) = false := by simp; omega
    have t' : decide (l.length < m.length) = false := by simp; omega
    clear hk
    go_wp2_with fail
    go_ret
    refine ⟨⟨0, rfl, ⟨fun _ => ?_, fun _ => rfl⟩⟩, HR.out.2⟩
    have e := HR.out.1
    rw [List.take_of_length_le (by first | omega | (simp; omega)), List.take_of_length_le (by first | omega | (simp; omega))] at e
    exact e

set_option maxRecDepth 100000 in
theorem pred_same_any (v v' : Value) (l m : List Con) (w : World) (h : SeesR w 7 Con.cells v l) (h' : SeesR w 7 Con.cells v' m) (hf : ∀ x ∈ l, SeesV w x.sv x.set) (hf' : ∀ x ∈ m, SeesV w x.sv x.set) :
  Calls Try.prog 45 #[v, v'] w fun e w' => e = .returned (.bool (sameP (l.map Con.plain) (m.map Con.plain))) ∧ Old w w' := by
 have C := Lib.hid (cmp_cons_any v v' l m w h h' hf hf')
 obtain ⟨p, c, rfl, _, _⟩ := h.len
 obtain ⟨p', c', rfl, _, _⟩ := h'.len
 clear h h' hf hf'
 have D : Hid (Calls Try.prog 63 #[.slice p l.length c, .slice p' m.length c'] w fun e w' => (∃ z : Int, e = .returned (.int .i64 z) ∧ (z = 0 ↔ l.map Con.plain = m.map Con.plain)) ∧ Old w w') := Lib.hid (by
  go_enter Try.func63, Try.ntmps63
  go_wp2_with fail
  refine C.out.mono ?_
  rintro e w1 ⟨⟨z, rfl, hz⟩, k1⟩
  have K := Lib.hid (And.intro hz k1)
  clear hz k1
  go_wp2_with fail
  go_ret
  exact ⟨⟨z, rfl, K.out.1⟩, K.out.2⟩)
 go_enter Try.func45, Try.ntmps45
 go_wp2_with fail
 refine D.out.mono ?_
 rintro e w1 ⟨⟨z, rfl, hz⟩, k1⟩
 have K := Lib.hid (And.intro hz k1)
 clear hz k1
 by_cases h0 : z = 0
 ·have t : (z == 0) = true := by rw [beq_iff_eq]; exact h0
  have HD := Lib.hid (show sameP (l.map Con.plain) (m.map Con.plain) = true from sameP_iff.2 (K.out.1.1 h0))
  clear h0
  go_wp2_with fail
  go_ret
  exact ⟨ret_bool HD.out.symm, K.out.2⟩
 ·have t : (z == 0) = false := by rw [beq_eq_false_iff_ne]; exact h0
  have HD := Lib.hid (show sameP (l.map Con.plain) (m.map Con.plain) = false by rw [Bool.eq_false_iff]; exact fun g => h0 (K.out.1.2 (sameP_iff.1 g)))
  clear h0
  go_wp2_with fail
  go_ret
  exact ⟨ret_bool HD.out.symm, K.out.2⟩
end Go.Proofs.Ytiednihagnehlaa

namespace Go.Proofs.Ytiednihagnehlaa
open Go.RowKit

theorem Sees.empty {w w' : World} {v : Value} (h : Sees w v []) : Sees w' v [] := by
 obtain ⟨p, c, e, h1, h2, h3, h4⟩ := h
 exact ⟨p, c, e, h1, h2, h3, fun a ha => ⟨(h4 a ha).1, fun j b hj => by cases hj⟩⟩
theorem Sees.keepR {w w' : World} {v : Value} {l : List UInt8} {rp : Nat} (h : Sees w v l) (k : Keeps (fun k => k = rp) w w') (hne : 0 < l.length → ∀ k, v.ownBlock = some k → k < rp) : Sees w' v l := by
 cases l with
 | nil => exact h.empty
 | cons x r => exact h.keeps k (fun b hb e => by have := hne (by simp) b hb; omega)
/-- the groups of a number, nine at most -/
def rscan (most : Nat) : Nat → Nat → List UInt8 → Option (Nat × List UInt8)
 | _, _, [] => none
 | i, acc, c :: r =>
  if 9 ≤ i then none
  else if c.toNat < 128 then (if most < acc + c.toNat % 128 * 128 ^ i ∨ (c.toNat = 0 ∧ 0 < i) then none else some (acc + c.toNat % 128 * 128 ^ i, r))
  else rscan most (i + 1) (acc + c.toNat % 128 * 128 ^ i) r
theorem rscan_scan (most : Nat) (hm : most < 9223372036854775808) : ∀ (l : List UInt8) (i acc : Nat), i ≤ 9 → rscan most i acc l = if (scan i acc l).2.1 ≠ 0 then none else if most < (scan i acc l).1 then none else some ((scan i acc l).1, (scan i acc l).2.2) := by
 intro l
 induction l with
 | nil => intro i acc _; simp [rscan, scan]
 | cons c r ih =>
  intro i acc hi
  rw [rscan, scan]
  by_cases h9 : 9 ≤ i
  ·obtain rfl : i = 9 := by omega
   rw [if_pos (Nat.le_refl _)]
   by_cases hb : (9 = 9 ∧ 1 < c.toNat) ∨ (0 < 9 ∧ c.toNat = 0)
   ·rw [if_pos hb]; simp
   ·rw [if_neg hb]
    have hc : c.toNat = 1 := by omega
    rw [hc]
    simp
    omega
  ·rw [if_neg h9]
   by_cases hb : (i = 9 ∧ 1 < c.toNat) ∨ (0 < i ∧ c.toNat = 0)
   ·rw [if_pos hb]
    have h0 : 0 < i ∧ c.toNat = 0 := by omega
    rw [if_pos (by omega), if_pos (.inr ⟨h0.2, h0.1⟩)]
    simp
   ·rw [if_neg hb]
    by_cases hc : c.toNat < 128
    ·rw [if_pos hc, if_pos hc]
     simp only [ne_eq, not_true_eq_false, if_false]
     by_cases hg : most < acc + c.toNat % 128 * 128 ^ i
     ·rw [if_pos (.inl hg), if_pos hg]
     ·rw [if_neg (by omega), if_neg hg]
    ·rw [if_neg hc, if_neg hc]
     exact ih (i + 1) _ (by omega)
theorem pNum_rscan {most : Nat} (hm : most < 9223372036854775808) (l : List UInt8) : pNum most l = rscan most 0 0 l := by
 rw [rscan_scan most hm l 0 0 (by omega)]
 unfold pNum readNum
 by_cases h : (scan 0 0 l).2.1 = 0
 ·by_cases h2 : most < (scan 0 0 l).1
  ·simp [h, h2]
  ·simp [h, h2]
 ·simp [h]

end Go.Proofs.Ytiednihagnehlaa

namespace Go.Proofs.Ytiednihagnehlaa
open Go.RowKit

theorem keepR {a b : World} {rp i : Nat} (u : Value) (h : Keeps (fun k => k = rp) a b) : Keeps (fun k => k = rp) a (b.setCell ⟨rp, i, none⟩ u) := h.setCell (fun _ => rfl) u
theorem readBytes_nat (l : List UInt8) (most : Nat) : readBytes l (most : Int) = if (readNum l most).2.1 ≠ 0 then ([], (readNum l most).2.1, l)
 else if (readNum l most).2.2.length < (readNum l most).1 then ([], 4, l) else ((readNum l most).2.2.take (readNum l most).1, 0, (readNum l most).2.2.drop (readNum l most).1) := by
 unfold readBytes
 have h : ¬ ((most : Int) < 0) := by omega
 rw [if_neg h, Int.toNat_natCast]
theorem pText_eq (most : Nat) (l : List UInt8) : pText most l = (pNum most l).bind fun x => if x.2.length < x.1 then none else some (⟨(x.2.take x.1).toArray⟩, x.2.drop x.1) := by
 unfold pText pNum
 rw [readBytes_nat]
 by_cases h : (readNum l most).2.1 = 0
 ·by_cases h2 : (readNum l most).2.2.length < (readNum l most).1
  ·simp [h, h2]
  ·simp [h, h2]
 ·simp [h]
end Go.Proofs.Ytiednihagnehlaa
