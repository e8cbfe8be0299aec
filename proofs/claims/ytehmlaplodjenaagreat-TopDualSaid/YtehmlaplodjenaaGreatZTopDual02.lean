/- DERIVED. Chapter 21: slices.CompareFunc, pred.order, pred.Compare, pred.Same. · DERIVED. slices.IndexFunc, ContainsFunc at whatever function value that only reads. -/
import Derived.Test.YtehmlaplodjenaaGreatZTopDual01
import Derived.Test.YtehmlaplodjenaaGreatYpTopDual02
import Derived.Deep.DeepCutAuto
set_option maxRecDepth 100000
set_option maxHeartbeats 4000000
namespace Go.Proofs.YtehmlaplodjenaaGreat
section
open Go.RowKit
theorem cmp_vals_any (v v' : Value) (l m : List Val) (w : World) (h : SeesR w 4 valL v l) (h' : SeesR w 4 valL v' m) :
  Calls Tryz.prog 162 #[v, v', .func (.func 161) #[] #[]] w fun e w' => (∃ z : Int, e = .returned (.int .i64 z) ∧ (z = 0 ↔ l = m)) ∧ Old w w' := by
 obtain ⟨p, c, rfl, hb1, hb2⟩ := h.len
 obtain ⟨p', c', rfl, hb3, hb4⟩ := h'.len
 have hmm : l.length ≤ 9223372036854775807 := by unfold maxLen at hb2; omega
 have hmm' : m.length ≤ 9223372036854775807 := by unfold maxLen at hb4; omega
 clear hb1 hb2 hb3 hb4
 have H := Lib.hid (And.intro h (And.intro h' trivial))
 clear h h'
 go_enter Tryz.func162, Tryz.ntmps162
 go_wp2_with fail
 go_loopw [7, 8, 9, 10, 13] (fun _ _ _ _ v13 wr => ∃ i : Nat, i ≤ l.length ∧ i ≤ m.length ∧ v13 = .int .i64 i ∧ (l).take i = (m).take i ∧ Old w wr) (fun _ _ _ _ v13 _ => l.length - (intOf v13).toNat)
 case atStart => exact ⟨0, by omega, by omega, rfl, rfl, Keeps.refl _ _⟩
 case round =>
  obtain ⟨i, hi, hi', rfl, hr, hk⟩ := hrel
  have HR := Lib.hid (And.intro hr hk)
  clear hr
  by_cases hlt : i < l.length
  ·obtain ⟨b, o, cc, he, _, _, hc⟩ := H.out.1.at (by omega)
   simp only [Value.slice.injEq, true_and] at he
   obtain ⟨rfl, rfl⟩ := he
   obtain ⟨x, hx⟩ : ∃ x, l[i]? = some x := ⟨_, List.getElem?_eq_getElem hlt⟩
   have i1 : (0 : Int) ≤ (i : Int) := by omega
   have i2 : (i : Int) < (l.length : Int) := by omega
   by_cases hlm : i < m.length
   ·obtain ⟨b', o', cc', he', _, _, hc'⟩ := H.out.2.1.at (by omega)
    simp only [Value.slice.injEq, true_and] at he'
    obtain ⟨rfl, rfl⟩ := he'
    obtain ⟨y, hy⟩ : ∃ y, m[i]? = some y := ⟨_, List.getElem?_eq_getElem hlm⟩
    have i3 : (i : Int) < (m.length : Int) := by omega
    have C := fun W (_ : Old wr W) => whole_any x y W
    obtain ⟨xk, xn, xs, xb⟩ := x
    obtain ⟨yk, yn, ys, yb⟩ := y
    unfold Val.cells at C
    simp only at C
    have cx := fun j u (hu : (valL ⟨xk, xn, xs, xb⟩)[j]? = some u) => hk.cell (hc i _ hx j u hu) (fun f => f)
    have cy := fun W (kw : Old wr W) j u (hu : (valL ⟨yk, yn, ys, yb⟩)[j]? = some u) => (hk.trans kw).cell (hc' i _ hy j u hu) (fun f => f)
    have x0 := cx 0 _ rfl
    have x1 := cx 1 _ rfl
    have x2 := cx 2 _ rfl
    have x3 := cx 3 _ rfl
    simp only [Nat.add_zero] at x0
    obtain ⟨Wz, hWz⟩ : ∃ Wz, wr.alloc (.cells #[.int .i64 0, .int .i64 0, .string ⟨#[]⟩, .bool false] 61) = Wz := ⟨_, rfl⟩
    have kz : Old wr Wz := by rw [← hWz]; exact (Keeps.refl _ _).alloc _
    have bz : Wz.heap[wr.heap.size]? = some (.cells #[.int .i64 0, .int .i64 0, .string ⟨#[]⟩, .bool false] 61 (0, 0)) := by rw [← hWz]; exact heap_alloc_new _ _
    have gz := blk4 bz
    obtain ⟨W1, hW1⟩ : ∃ W1, (((Wz.setCell ⟨wr.heap.size, 0, none⟩ (.int .i64 xk)).setCell ⟨wr.heap.size, 1, none⟩ (.int .i64 xn)).setCell ⟨wr.heap.size, 2, none⟩ (.string xs)).setCell ⟨wr.heap.size, 3, none⟩ (.bool xb) = W1 := ⟨_, rfl⟩
    have kk1 : Keeps (fun k => k = wr.heap.size) Wz W1 := by rw [← hW1]; exact keepS _ (keepS _ (keepS _ (keepS _ (Keeps.refl _ _))))
    have k1 : Old wr W1 := kz.then kk1 (fun i hi e => by omega)
    have b1 : W1.heap[wr.heap.size]? = some (.cells #[.int .i64 xk, .int .i64 xn, .string xs, .bool xb] 61 (0, 0)) := by rw [← hW1]; exact set4 bz
    have y0 := cy W1 k1 0 _ rfl
    have y1 := cy W1 k1 1 _ rfl
    have y2 := cy W1 k1 2 _ rfl
    have y3 := cy W1 k1 3 _ rfl
    simp only [Nat.add_zero] at y0
    obtain ⟨Wy, hWy⟩ : ∃ Wy, W1.alloc (.cells #[.int .i64 0, .int .i64 0, .string ⟨#[]⟩, .bool false] 61) = Wy := ⟨_, rfl⟩
    have ky : Old W1 Wy := by rw [← hWy]; exact (Keeps.refl _ _).alloc _
    have bq : Wy.heap[W1.heap.size]? = some (.cells #[.int .i64 0, .int .i64 0, .string ⟨#[]⟩, .bool false] 61 (0, 0)) := by rw [← hWy]; exact heap_alloc_new _ _
    have gy := blk4 bq
    obtain ⟨W2, hW2⟩ : ∃ W2, (((Wy.setCell ⟨W1.heap.size, 0, none⟩ (.int .i64 yk)).setCell ⟨W1.heap.size, 1, none⟩ (.int .i64 yn)).setCell ⟨W1.heap.size, 2, none⟩ (.string ys)).setCell ⟨W1.heap.size, 3, none⟩ (.bool yb) = W2 := ⟨_, rfl⟩
    have kk2 : Keeps (fun k => k = W1.heap.size) Wy W2 := by rw [← hW2]; exact keepS _ (keepS _ (keepS _ (keepS _ (Keeps.refl _ _))))
    have k2 : Old W1 W2 := ky.then kk2 (fun i hi e => by omega)
    have b2 : W2.heap[W1.heap.size]? = some (.cells #[.int .i64 yk, .int .i64 yn, .string ys, .bool yb] 61 (0, 0)) := by rw [← hW2]; exact set4 bq
    have b12 := (k2.block _ (lt_of_heap b1) (fun f => f)).trans b1
    have g1 := blk4 b12
    have g2 := blk4 b2
    have HC := Lib.hid (C W2 (k1.trans k2))
    have HW1 := Lib.hid hW1
    have HW2 := Lib.hid hW2
    have KW := Lib.hid (And.intro (hk.trans (k1.trans k2)) (And.intro hx hy))
    clear cx cy hc hc' hk C kz bz kk1 k1 b1 ky bq kk2 k2 b2 b12 hx hy hW1 hW2
    go_upto_region 4 with fail
    try rw [HW1.out]
    clear x0 x1 x2 x3 hWz
    go_upto_region 7 with fail
    try rw [HW2.out]
    clear y0 y1 y2 y3 hWy gz gy
    go_wp2_with fail
    refine HC.out.mono ?_
    rintro e w3 ⟨⟨z, rfl, hz⟩, k3⟩
    have K3 := Lib.hid (And.intro (KW.out.1.trans k3) hz)
    clear k3 HC hz
    by_cases hz0 : z = 0
    ·have t : (z != 0) = false := by rw [bne_eq_false_iff_eq]; exact hz0
     have HZ := Lib.hid hz0
     clear hz0
     go_wp2_with fail
     go_roundw
     case rel => exact ⟨i + 1, by omega, by omega, by go_num, take_next HR.out.1 (x := ⟨xk, xn, xs, xb⟩) (by simp [KW.out.2.1]) (by simp [KW.out.2.2, ← K3.out.2.1 HZ.out]), K3.out.1⟩
     case measure => simp [intOf]; omega
    ·have t : (z != 0) = true := by rw [bne_iff_ne]; exact hz0
     have HZ := Lib.hid hz0
     clear hz0
     go_wp2_with fail
     go_ret
     refine ⟨⟨z, rfl, ⟨fun h => absurd h HZ.out, fun g => ?_⟩⟩, K3.out.1⟩
     have e := congrArg (fun l => l[i]?) g
     simp only [KW.out.2.1, KW.out.2.2, Option.some.injEq] at e
     exact K3.out.2.2 e
   ·have t : decide ((m.length : Int) ≤ (i : Int)) = true := by simp; omega
    have t' : decide (m.length ≤ i) = true := by simp; omega
    obtain ⟨xk, xn, xs, xb⟩ := x
    have cx := fun j u (hu : (valL ⟨xk, xn, xs, xb⟩)[j]? = some u) => hk.cell (hc i _ hx j u hu) (fun f => f)
    have x0 := cx 0 _ rfl
    have x1 := cx 1 _ rfl
    have x2 := cx 2 _ rfl
    have x3 := cx 3 _ rfl
    simp only [Nat.add_zero] at x0
    obtain ⟨Wz, hWz⟩ : ∃ Wz, wr.alloc (.cells #[.int .i64 0, .int .i64 0, .string ⟨#[]⟩, .bool false] 61) = Wz := ⟨_, rfl⟩
    have kz : Old wr Wz := by rw [← hWz]; exact (Keeps.refl _ _).alloc _
    have bz : Wz.heap[wr.heap.size]? = some (.cells #[.int .i64 0, .int .i64 0, .string ⟨#[]⟩, .bool false] 61 (0, 0)) := by rw [← hWz]; exact heap_alloc_new _ _
    have gz := blk4 bz
    obtain ⟨W1, hW1⟩ : ∃ W1, (((Wz.setCell ⟨wr.heap.size, 0, none⟩ (.int .i64 xk)).setCell ⟨wr.heap.size, 1, none⟩ (.int .i64 xn)).setCell ⟨wr.heap.size, 2, none⟩ (.string xs)).setCell ⟨wr.heap.size, 3, none⟩ (.bool xb) = W1 := ⟨_, rfl⟩
    have kk1 : Keeps (fun k => k = wr.heap.size) Wz W1 := by rw [← hW1]; exact keepS _ (keepS _ (keepS _ (keepS _ (Keeps.refl _ _))))
    have k1 : Old wr W1 := kz.then kk1 (fun i hi e => by omega)
    have HW1 := Lib.hid hW1
    have KW := Lib.hid (hk.trans k1)
    clear cx hc hk kz bz kk1 k1 hx hW1
    go_upto_region 4 with fail
    try rw [HW1.out]
    clear x0 x1 x2 x3 hWz gz
    go_wp2_with fail
    go_ret
    refine ⟨⟨1, rfl, ⟨fun h => by omega, fun g => ?_⟩⟩, KW.out⟩
    have e := congrArg List.length g
    try simp at e
    omega
  ·by_cases hlm : l.length < m.length
   ·have t : decide ((l.length : Int) < (m.length : Int)) = true := by simp; omega
    have t' : decide (l.length < m.length) = true := by simp; omega
    clear hk
    go_wp2_with fail
    go_ret
    refine ⟨⟨-1, rfl, ⟨fun h => by omega, fun g => ?_⟩⟩, HR.out.2⟩
    have e := congrArg List.length g
    try simp at e
    omega
   ·have t : decide ((l.length : Int) < (m.length : Int)) = false := by simp; omega
    have t' : decide (l.length < m.length) = false := by simp; omega
    clear hk
    go_wp2_with fail
    go_ret
    refine ⟨⟨0, rfl, ⟨fun _ => ?_, fun _ => rfl⟩⟩, HR.out.2⟩
    have e := HR.out.1
    rw [List.take_of_length_le (by first | omega | (simp; omega)), List.take_of_length_le (by first | omega | (simp; omega))] at e
    exact e
theorem order_any (a a' : Con) (w : World) (h : SeesV w a.sv a.set) (h' : SeesV w a'.sv a'.set) : Calls Tryz.prog 102 #[.agg a.cells.toArray, .agg a'.cells.toArray] w fun e w' => (∃ z : Int, e = .returned (.int .i64 z) ∧ (z = 0 ↔ a.plain = a'.plain)) ∧ Old w w' := by
 have CW := fun W => whole_any a.val a'.val W
 have CL := fun W (k : Old w W) => cmp_vals_any a.sv a'.sv a.set a'.set W (h.old k) (h'.old k)
 obtain ⟨nm, op, ⟨k, n, s, b⟩, sv, set⟩ := a
 obtain ⟨nm', op', ⟨k', n', s', b'⟩, sv', set'⟩ := a'
 obtain ⟨p, c, e1, _, _⟩ := h.len
 obtain ⟨p', c', e2, _, _⟩ := h'.len
 simp only at e1 e2
 subst e1 e2
 unfold Con.cells Con.plain
 unfold Val.cells at CW
 simp only at CW CL ⊢
 have HC := Lib.hid (And.intro CW CL)
 clear CW CL h h'
 obtain ⟨W0, hW0⟩ : ∃ W0, (w.alloc (.cells #[.string nm, .int .i64 op, .int .i64 k, .int .i64 n, .string s, .bool b, .slice p set.length c] 78)).alloc (.cells #[.string nm', .int .i64 op', .int .i64 k', .int .i64 n', .string s', .bool b', .slice p' set'.length c'] 78) = W0 := ⟨_, rfl⟩
 have k0 : Old w W0 := by rw [← hW0]; exact ((Keeps.refl _ _).alloc _).alloc _
 obtain ⟨b0, b1⟩ := two_blocks w (.cells #[.string nm, .int .i64 op, .int .i64 k, .int .i64 n, .string s, .bool b, .slice p set.length c] 78) (.cells #[.string nm', .int .i64 op', .int .i64 k', .int .i64 n', .string s', .bool b', .slice p' set'.length c'] 78)
 rw [hW0] at b0 b1
 have B := Lib.hid (And.intro k0 (And.intro b0 b1))
 clear k0 b0 b1
 go_enter Tryz.func102, Tryz.ntmps102
 go_wp2_with fail
 refine wp_region_g (S := fun W' => Old W0 W') (M := List.range 23) (by kernel_rfl) ?_
 have hS : Old W0 W0.drew := (Keeps.refl _ _).drew
 refine tkG (i := 0) (v := ?va0) ?ya0 hS ?ra0
 case ya0 => (intro W hSw; go_simp; try with_reducible rfl)
 try simp only [Act.put, List.setIfInBounds_toArray, List.set_cons_zero, List.set_cons_succ]
 refine tkG (i := 1) (v := ?va1) ?ya1 hS ?ra1
 case ya1 => (intro W hSw; have tt := blk7 ((hSw.block _ (lt_of_heap B.out.2.1) (fun f => f)).trans B.out.2.1); go_simp; try with_reducible rfl)
 try simp only [Act.put, List.setIfInBounds_toArray, List.set_cons_zero, List.set_cons_succ]
 refine tkG (i := 2) (v := ?va2) ?ya2 hS ?ra2
 case ya2 => (intro W hSw; go_simp; try with_reducible rfl)
 try simp only [Act.put, List.setIfInBounds_toArray, List.set_cons_zero, List.set_cons_succ]
 refine tkG (i := 3) (v := ?va3) ?ya3 hS ?ra3
 case ya3 => (intro W hSw; have tt := blk7 ((hSw.block _ (lt_of_heap B.out.2.2) (fun f => f)).trans B.out.2.2); go_simp; try with_reducible rfl)
 try simp only [Act.put, List.setIfInBounds_toArray, List.set_cons_zero, List.set_cons_succ]
 refine tkG (i := 5) (v := ?va5) ?ya5 hS ?ra5
 case ya5 => (intro W hSw; go_simp; try with_reducible rfl)
 try simp only [Act.put, List.setIfInBounds_toArray, List.set_cons_zero, List.set_cons_succ]
 refine tkG (i := 6) (v := ?va6) ?ya6 hS ?ra6
 case ya6 => (intro W hSw; have tt := blk7 ((hSw.block _ (lt_of_heap B.out.2.1) (fun f => f)).trans B.out.2.1); go_simp; try with_reducible rfl)
 try simp only [Act.put, List.setIfInBounds_toArray, List.set_cons_zero, List.set_cons_succ]
 refine tkG (i := 7) (v := ?va7) ?ya7 hS ?ra7
 case ya7 => (intro W hSw; go_simp; try with_reducible rfl)
 try simp only [Act.put, List.setIfInBounds_toArray, List.set_cons_zero, List.set_cons_succ]
 refine tkG (i := 8) (v := ?va8) ?ya8 hS ?ra8
 case ya8 => (intro W hSw; have tt := blk7 ((hSw.block _ (lt_of_heap B.out.2.2) (fun f => f)).trans B.out.2.2); go_simp; try with_reducible rfl)
 try simp only [Act.put, List.setIfInBounds_toArray, List.set_cons_zero, List.set_cons_succ]
 refine tkG (i := 10) (v := ?va10) ?ya10 hS ?ra10
 case ya10 => (intro W hSw; go_simp; try with_reducible rfl)
 try simp only [Act.put, List.setIfInBounds_toArray, List.set_cons_zero, List.set_cons_succ]
 refine tkG (i := 11) (v := ?va11) ?ya11 hS ?ra11
 case ya11 => (intro W hSw; have tt := blk7 ((hSw.block _ (lt_of_heap B.out.2.1) (fun f => f)).trans B.out.2.1); go_simp; try with_reducible rfl)
 try simp only [Act.put, List.setIfInBounds_toArray, List.set_cons_zero, List.set_cons_succ]
 refine tkG (i := 12) (v := ?va12) ?ya12 hS ?ra12
 case ya12 => (intro W hSw; go_simp; try with_reducible rfl)
 try simp only [Act.put, List.setIfInBounds_toArray, List.set_cons_zero, List.set_cons_succ]
 refine tkG (i := 13) (v := ?va13) ?ya13 hS ?ra13
 case ya13 => (intro W hSw; have tt := blk7 ((hSw.block _ (lt_of_heap B.out.2.2) (fun f => f)).trans B.out.2.2); go_simp; try with_reducible rfl)
 try simp only [Act.put, List.setIfInBounds_toArray, List.set_cons_zero, List.set_cons_succ]
 refine tkG (i := 15) (v := ?va15) ?ya15 hS ?ra15
 case ya15 => (intro W hSw; go_simp; try with_reducible rfl)
 try simp only [Act.put, List.setIfInBounds_toArray, List.set_cons_zero, List.set_cons_succ]
 refine tkG (i := 16) (v := ?va16) ?ya16 hS ?ra16
 case ya16 => (intro W hSw; have tt := blk7 ((hSw.block _ (lt_of_heap B.out.2.1) (fun f => f)).trans B.out.2.1); go_simp; try with_reducible rfl)
 try simp only [Act.put, List.setIfInBounds_toArray, List.set_cons_zero, List.set_cons_succ]
 refine tkG (i := 17) (v := ?va17) ?ya17 hS ?ra17
 case ya17 => (intro W hSw; go_simp; try with_reducible rfl)
 try simp only [Act.put, List.setIfInBounds_toArray, List.set_cons_zero, List.set_cons_succ]
 refine tkG (i := 18) (v := ?va18) ?ya18 hS ?ra18
 case ya18 => (intro W hSw; have tt := blk7 ((hSw.block _ (lt_of_heap B.out.2.2) (fun f => f)).trans B.out.2.2); go_simp; try with_reducible rfl)
 try simp only [Act.put, List.setIfInBounds_toArray, List.set_cons_zero, List.set_cons_succ]
 refine wpAnyG_onlyL (i := 4) (o := _) (by kernel_rfl) rfl (fun K hK => ?_)
 go_simp
 refine (cmp_str_any _ _ _).mono ?_
 rintro e w1 ⟨rfl, rfl⟩
 go_wp2_with fail
 refine hK.out _ _ (fun _ => hS) ?_
 clear hK K
 try simp only [Act.put, List.setIfInBounds_toArray, List.set_cons_zero, List.set_cons_succ]
 refine wpAnyG_onlyL (i := 9) (o := _) (by kernel_rfl) rfl (fun K hK => ?_)
 go_simp
 refine (cmp_int_any _ _ _).mono ?_
 rintro e w2 ⟨rfl, rfl⟩
 go_wp2_with fail
 refine hK.out _ _ (fun _ => hS) ?_
 clear hK K
 try simp only [Act.put, List.setIfInBounds_toArray, List.set_cons_zero, List.set_cons_succ]
 refine wpAnyG_onlyL (i := 14) (o := _) (by kernel_rfl) rfl (fun K hK => ?_)
 go_simp
 refine (HC.out.1 _).mono ?_
 rintro e w3 ⟨⟨z3, rfl, hz3⟩, k3⟩
 have hS3 : Old W0 w3 := hS.trans k3
 clear k3
 go_wp2_with fail
 refine hK.out _ _ (fun _ => hS3) ?_
 clear hK K
 try simp only [Act.put, List.setIfInBounds_toArray, List.set_cons_zero, List.set_cons_succ]
 refine wpAnyG_onlyL (i := 19) (o := _) (by kernel_rfl) rfl (fun K hK => ?_)
 go_simp
 refine (HC.out.2 _ (B.out.1.trans hS3)).mono ?_
 rintro e w4 ⟨⟨z4, rfl, hz4⟩, k4⟩
 have hS4 : Old W0 w4 := hS3.trans k4
 clear k4
 go_wp2_with fail
 refine hK.out _ _ (fun _ => hS4) ?_
 clear hK K
 try simp only [Act.put, List.setIfInBounds_toArray, List.set_cons_zero, List.set_cons_succ]
 refine wpAnyG_onlyL (i := 20) (o := _) (by kernel_rfl) rfl (fun K hK => ?_)
 go_simp
 obtain ⟨z1, hz1⟩ : ∃ z, strZ nm nm' = z := ⟨_, rfl⟩
 obtain ⟨z2, hz2⟩ : ∃ z, cmpZ op op' = z := ⟨_, rfl⟩
 rw [hz1, hz2]
 have SN : SeesR (w4.alloc (.cells #[.int .i64 z1, .int .i64 z2, .int .i64 z3, .int .i64 z4] 3)) 1 intL (.slice (some ⟨w4.heap.size, 0, none⟩) 4 4) [z1, z2, z3, z4] := SeesR.new (k := 1) (enc := intL) w4 _ (0, 0) [z1, z2, z3, z4] _ (by rfl) (fun _ => rfl) (by unfold maxLen; simp)
 have hS7 : Old W0 (w4.alloc (.cells #[.int .i64 z1, .int .i64 z2, .int .i64 z3, .int .i64 z4] 3)) := hS4.alloc _
 refine hK.out _ _ (fun _ => hS7) ?_
 clear hK K
 try simp only [Act.put, List.setIfInBounds_toArray, List.set_cons_zero, List.set_cons_succ]
 refine wpAnyG_onlyL (i := 21) (o := _) (by kernel_rfl) rfl (fun K hK => ?_)
 go_simp
 refine (or_int_any _ _ _ SN).mono ?_
 rintro e w8 ⟨⟨z, rfl, hz⟩, k8⟩
 have hS8 : Old W0 w8 := hS7.trans k8
 clear k8
 go_wp2_with fail
 refine hK.out _ _ (fun _ => hS8) ?_
 clear hK K
 try simp only [Act.put, List.setIfInBounds_toArray, List.set_cons_zero, List.set_cons_succ]
 refine tkG (i := 22) (v := ?va22) ?ya22 hS8 ?ra22
 case ya22 => (intro W hSw; go_simp; try with_reducible rfl)
 try simp only [Act.put, List.setIfInBounds_toArray, List.set_cons_zero, List.set_cons_succ]
 refine wpAnyG_done (by kernel_rfl) ?_ _
 go_simp
 have hzz : z = 0 ↔ (⟨nm, op, ⟨k, n, s, b⟩, set⟩ : PCon) = ⟨nm', op', ⟨k', n', s', b'⟩, set'⟩ := by
  rw [hz]
  simp only [List.mem_cons, List.not_mem_nil, or_false, forall_eq_or_imp, forall_eq, PCon.mk.injEq]
  rw [← hz1, ← hz2, strZ_zero, cmpZ_zero, hz3, hz4]
 have R := Lib.hid (And.intro hzz (B.out.1.trans hS8))
 clear hz hS hS3 hS4 hS7 hS8 SN hz1 hz2 hz3 hz4 hzz
 go_wp2_with fail
 go_ret
 exact ⟨⟨z, rfl, R.out.1⟩, R.out.2⟩
end
section
open Go.RowKit
def fIdx {α : Type} (p : α → Bool) (l : List α) : Int := (l.findIdx? p).elim (-1) (fun k => (k : Int))
theorem fIdx_any {α : Type} (p : α → Bool) (l : List α) : decide (0 ≤ fIdx p l) = l.any p := by
 unfold fIdx
 cases h : l.findIdx? p with
 | none =>
  rw [List.findIdx?_eq_none_iff] at h
  have : l.any p = false := by simpa using h
  rw [this]; rfl
 | some k =>
  obtain ⟨hk, hp, _⟩ := List.findIdx?_eq_some_iff_getElem.1 h
  have : l.any p = true := List.any_eq_true.2 ⟨_, List.getElem_mem hk, hp⟩
  rw [this]
  simp
theorem fIdx_hit {α : Type} {p : α → Bool} {l : List α} {k : Nat} {x : α} (hx : l[k]? = some x) (hp : p x = true) (hn : (l.take k).any p = false) : fIdx p l = (k : Int) := by
 unfold fIdx
 have hk : k < l.length := (List.getElem?_eq_some_iff.1 hx).1
 have : l.findIdx? p = some k := by
  rw [List.findIdx?_eq_some_iff_getElem]
  refine ⟨hk, ?_, fun j hj => ?_⟩
  ·rw [List.getElem?_eq_getElem hk] at hx; simp only [Option.some.injEq] at hx; rw [hx]; exact hp
  ·have hjl : j < (l.take k).length := by rw [List.length_take]; omega
   have hm : (l.take k)[j] ∈ l.take k := List.getElem_mem hjl
   have h0 := (List.any_eq_false.1 hn) _ hm
   simpa using h0
 rw [this]; rfl
theorem fIdx_none {α : Type} {p : α → Bool} {l : List α} (hn : l.any p = false) : fIdx p l = -1 := by
 unfold fIdx
 have : l.findIdx? p = none := by rw [List.findIdx?_eq_none_iff]; simpa using hn
 rw [this]; rfl
theorem any_take {α : Type} {p : α → Bool} {l : List α} {k : Nat} {x : α} (hx : l[k]? = some x) (hp : p x = false) (hn : (l.take k).any p = false) : (l.take (k + 1)).any p = false := by
 rw [List.take_add_one, hx, List.any_append, hn]
 simp [hp]
def AskF {α : Type} (w : World) (fv : Value) (arg : α → Value) (p : α → Bool) (l : List α) : Prop :=
 ∃ g bd lb, fv = .func (.func g) bd lb ∧ (∀ args W, (callFunc g args).run Tryz.prog W = .ok (.enter g args) W) ∧ ∀ x ∈ l, ∀ W, Old w W → Calls Tryz.prog g (bd ++ #[arg x] ++ lb) W fun e W' => e = .returned (.bool (p x)) ∧ Old W W'
theorem AskF.later {α : Type} {w w' : World} {fv : Value} {arg : α → Value} {p : α → Bool} {l : List α} (h : AskF w fv arg p l) (k : Old w w') : AskF w' fv arg p l := by
 obtain ⟨g, bd, lb, e, h1, h2⟩ := h
 exact ⟨g, bd, lb, e, h1, fun x hx W hW => h2 x hx W (k.trans hW)⟩
theorem ixf_at (p : At → Bool) (fv v : Value) (l : List At) (w : World) (h : SeesR w 5 At.cells v l) (hf : AskF w fv (fun x => .agg (At.cells x).toArray) p l) :
  Calls Tryz.prog 79 #[v, fv] w fun e w' => e = .returned (.int .i64 (fIdx p l)) ∧ Old w w' := by
 obtain ⟨g, bd, lb, rfl, hent, hcall⟩ := hf
 by_cases hl : 0 < l.length
 ·obtain ⟨b, o, c, rfl, h1, h2, hcell⟩ := h.at hl
  have hm : l.length ≤ 9223372036854775807 := by unfold maxLen at h2; omega
  have HC := Lib.hid hcell
  have HK := Lib.hid hcall
  clear h1 h2 h hcell hl hcall
  go_enter Tryz.func79, Tryz.ntmps79
  go_wp2_with fail
  go_loopw [8] (fun v8 wr => ∃ k : Nat, k ≤ l.length ∧ v8 = .int .i64 k ∧ (l.take k).any p = false ∧ Old w wr) (fun v8 _ => l.length - (intOf v8).toNat)
  case atStart => exact ⟨0, by omega, rfl, by simp, Keeps.refl _ _⟩
  case round =>
   obtain ⟨k, hk, rfl, hr, hkw⟩ := hrel
   have HR := Lib.hid (And.intro hr hkw)
   clear hr
   by_cases hlt : k < l.length
   ·have hx : l[k]? = some l[k] := List.getElem?_eq_getElem hlt
    have hmem : l[k] ∈ l := List.getElem_mem hlt
    generalize l[k] = x at hx hmem
    have cell : ∀ i u, (At.cells x)[i]? = some u → wr.cell? ⟨b, o + k * 5 + i, none⟩ = some u := fun i u hu => hkw.cell (HC.out k x hx i u hu) (fun f => f)
    have c0 := cell 0 _ rfl
    have c1 := cell 1 _ rfl
    have c2 := cell 2 _ rfl
    have c3 := cell 3 _ rfl
    have c4 := cell 4 _ rfl
    simp only [Nat.add_zero] at c0
    have N := HK.out x hmem wr hkw
    have HX := Lib.hid hx
    clear cell hx hkw hmem
    cases hg : p x
    ·rw [hg] at N
     have HN := Lib.hid N
     have HG := Lib.hid hg
     clear N hg
     go_wp2_with fail
     refine HN.out.mono ?_
     rintro e w1 ⟨rfl, hk1⟩
     have K1 := Lib.hid (HR.out.2.trans hk1)
     clear hk1
     go_wp2_with fail
     go_roundw
     case rel => exact ⟨k + 1, by omega, by go_num, any_take HX.out HG.out HR.out.1, K1.out⟩
     case measure => simp [intOf]; omega
    ·rw [hg] at N
     have HN := Lib.hid N
     have HG := Lib.hid hg
     clear N hg
     go_wp2_with fail
     refine HN.out.mono ?_
     rintro e w1 ⟨rfl, hk1⟩
     have K1 := Lib.hid (HR.out.2.trans hk1)
     clear hk1
     go_wp2_with fail
     go_ret
     exact ⟨by rw [fIdx_hit HX.out HG.out HR.out.1]; rfl, K1.out⟩
   ·clear hkw
    go_wp2_with fail
    go_ret
    refine ⟨?_, HR.out.2⟩
    have h0 := HR.out.1
    rw [List.take_of_length_le (by omega)] at h0
    rw [fIdx_none h0]; rfl
 ·obtain ⟨rfl, q, c, rfl⟩ := h.at0 (by omega)
  clear h hl hcall
  go_enter Tryz.func79, Tryz.ntmps79
  go_wp2_with fail
  go_loopw [8] (fun v8 wr => v8 = .int .i64 0 ∧ Old w wr) (fun _ _ => 0)
  case atStart => exact ⟨rfl, Keeps.refl _ _⟩
  case round =>
   obtain ⟨rfl, hkw⟩ := hrel
   have K1 := Lib.hid hkw
   clear hkw
   go_wp2_with fail
   go_ret
   exact ⟨rfl, K1.out⟩
theorem ixf_con (p : Con → Bool) (fv v : Value) (l : List Con) (w : World) (h : SeesR w 7 Con.cells v l) (hf : AskF w fv (fun x => .agg (Con.cells x).toArray) p l) :
  Calls Tryz.prog 61 #[v, fv] w fun e w' => e = .returned (.int .i64 (fIdx p l)) ∧ Old w w' := by
 obtain ⟨g, bd, lb, rfl, hent, hcall⟩ := hf
 by_cases hl : 0 < l.length
 ·obtain ⟨b, o, c, rfl, h1, h2, hcell⟩ := h.at hl
  have hm : l.length ≤ 9223372036854775807 := by unfold maxLen at h2; omega
  have HC := Lib.hid hcell
  have HK := Lib.hid hcall
  clear h1 h2 h hcell hl hcall
  go_enter Tryz.func61, Tryz.ntmps61
  go_wp2_with fail
  go_loopw [8] (fun v8 wr => ∃ k : Nat, k ≤ l.length ∧ v8 = .int .i64 k ∧ (l.take k).any p = false ∧ Old w wr) (fun v8 _ => l.length - (intOf v8).toNat)
  case atStart => exact ⟨0, by omega, rfl, by simp, Keeps.refl _ _⟩
  case round =>
   obtain ⟨k, hk, rfl, hr, hkw⟩ := hrel
   have HR := Lib.hid (And.intro hr hkw)
   clear hr
   by_cases hlt : k < l.length
   ·have hx : l[k]? = some l[k] := List.getElem?_eq_getElem hlt
    have hmem : l[k] ∈ l := List.getElem_mem hlt
    generalize l[k] = x at hx hmem
    have cell : ∀ i u, (Con.cells x)[i]? = some u → wr.cell? ⟨b, o + k * 7 + i, none⟩ = some u := fun i u hu => hkw.cell (HC.out k x hx i u hu) (fun f => f)
    have c0 := cell 0 _ rfl
    have c1 := cell 1 _ rfl
    have c2 := cell 2 _ rfl
    have c3 := cell 3 _ rfl
    have c4 := cell 4 _ rfl
    have c5 := cell 5 _ rfl
    have c6 := cell 6 _ rfl
    simp only [Nat.add_zero] at c0
    have N := HK.out x hmem wr hkw
    have HX := Lib.hid hx
    clear cell hx hkw hmem
    cases hg : p x
    ·rw [hg] at N
     have HN := Lib.hid N
     have HG := Lib.hid hg
     clear N hg
     go_wp2_with fail
     refine HN.out.mono ?_
     rintro e w1 ⟨rfl, hk1⟩
     have K1 := Lib.hid (HR.out.2.trans hk1)
     clear hk1
     go_wp2_with fail
     go_roundw
     case rel => exact ⟨k + 1, by omega, by go_num, any_take HX.out HG.out HR.out.1, K1.out⟩
     case measure => simp [intOf]; omega
    ·rw [hg] at N
     have HN := Lib.hid N
     have HG := Lib.hid hg
     clear N hg
     go_wp2_with fail
     refine HN.out.mono ?_
     rintro e w1 ⟨rfl, hk1⟩
     have K1 := Lib.hid (HR.out.2.trans hk1)
     clear hk1
     go_wp2_with fail
     go_ret
     exact ⟨by rw [fIdx_hit HX.out HG.out HR.out.1]; rfl, K1.out⟩
   ·clear hkw
    go_wp2_with fail
    go_ret
    refine ⟨?_, HR.out.2⟩
    have h0 := HR.out.1
    rw [List.take_of_length_le (by omega)] at h0
    rw [fIdx_none h0]; rfl
 ·obtain ⟨rfl, q, c, rfl⟩ := h.at0 (by omega)
  clear h hl hcall
  go_enter Tryz.func61, Tryz.ntmps61
  go_wp2_with fail
  go_loopw [8] (fun v8 wr => v8 = .int .i64 0 ∧ Old w wr) (fun _ _ => 0)
  case atStart => exact ⟨rfl, Keeps.refl _ _⟩
  case round =>
   obtain ⟨rfl, hkw⟩ := hrel
   have K1 := Lib.hid hkw
   clear hkw
   go_wp2_with fail
   go_ret
   exact ⟨rfl, K1.out⟩
theorem cff_con (p : Con → Bool) (fv v : Value) (l : List Con) (w : World) (h : SeesR w 7 Con.cells v l) (hf : AskF w fv (fun x => .agg (Con.cells x).toArray) p l) :
  Calls Tryz.prog 23 #[v, fv] w fun e w' => e = .returned (.bool (l.any p)) ∧ Old w w' := by
 have C := Lib.hid (ixf_con p fv v l w h hf)
 obtain ⟨q, c, rfl, h1, h2⟩ := h.len
 obtain ⟨g, bd, lb, rfl, hent, hcall⟩ := hf
 clear h h1 h2 hcall
 go_enter Tryz.func23, Tryz.ntmps23
 go_wp2_with fail
 refine C.out.mono ?_
 rintro e w' ⟨rfl, hk⟩
 have HI := Lib.hid (And.intro (fIdx_any p l) hk)
 clear hk
 go_wp2_with fail
 go_ret
 exact ⟨ret_bool HI.out.1, HI.out.2⟩
theorem ixf_val (p : Val → Bool) (fv v : Value) (l : List Val) (w : World) (h : SeesR w 4 valL v l) (hf : AskF w fv (fun x => .agg (valL x).toArray) p l) :
  Calls Tryz.prog 105 #[v, fv] w fun e w' => e = .returned (.int .i64 (fIdx p l)) ∧ Old w w' := by
 obtain ⟨g, bd, lb, rfl, hent, hcall⟩ := hf
 by_cases hl : 0 < l.length
 ·obtain ⟨b, o, c, rfl, h1, h2, hcell⟩ := h.at hl
  have hm : l.length ≤ 9223372036854775807 := by unfold maxLen at h2; omega
  have HC := Lib.hid hcell
  have HK := Lib.hid hcall
  clear h1 h2 h hcell hl hcall
  go_enter Tryz.func105, Tryz.ntmps105
  go_wp2_with fail
  go_loopw [8] (fun v8 wr => ∃ k : Nat, k ≤ l.length ∧ v8 = .int .i64 k ∧ (l.take k).any p = false ∧ Old w wr) (fun v8 _ => l.length - (intOf v8).toNat)
  case atStart => exact ⟨0, by omega, rfl, by simp, Keeps.refl _ _⟩
  case round =>
   obtain ⟨k, hk, rfl, hr, hkw⟩ := hrel
   have HR := Lib.hid (And.intro hr hkw)
   clear hr
   by_cases hlt : k < l.length
   ·have hx : l[k]? = some l[k] := List.getElem?_eq_getElem hlt
    have hmem : l[k] ∈ l := List.getElem_mem hlt
    generalize l[k] = x at hx hmem
    have cell : ∀ i u, (valL x)[i]? = some u → wr.cell? ⟨b, o + k * 4 + i, none⟩ = some u := fun i u hu => hkw.cell (HC.out k x hx i u hu) (fun f => f)
    have c0 := cell 0 _ rfl
    have c1 := cell 1 _ rfl
    have c2 := cell 2 _ rfl
    have c3 := cell 3 _ rfl
    simp only [Nat.add_zero] at c0
    have N := HK.out x hmem wr hkw
    have HX := Lib.hid hx
    clear cell hx hkw hmem
    cases hg : p x
    ·rw [hg] at N
     have HN := Lib.hid N
     have HG := Lib.hid hg
     clear N hg
     go_wp2_with fail
     refine HN.out.mono ?_
     rintro e w1 ⟨rfl, hk1⟩
     have K1 := Lib.hid (HR.out.2.trans hk1)
     clear hk1
     go_wp2_with fail
     go_roundw
     case rel => exact ⟨k + 1, by omega, by go_num, any_take HX.out HG.out HR.out.1, K1.out⟩
     case measure => simp [intOf]; omega
    ·rw [hg] at N
     have HN := Lib.hid N
     have HG := Lib.hid hg
     clear N hg
     go_wp2_with fail
     refine HN.out.mono ?_
     rintro e w1 ⟨rfl, hk1⟩
     have K1 := Lib.hid (HR.out.2.trans hk1)
     clear hk1
     go_wp2_with fail
     go_ret
     exact ⟨by rw [fIdx_hit HX.out HG.out HR.out.1]; rfl, K1.out⟩
   ·clear hkw
    go_wp2_with fail
    go_ret
    refine ⟨?_, HR.out.2⟩
    have h0 := HR.out.1
    rw [List.take_of_length_le (by omega)] at h0
    rw [fIdx_none h0]; rfl
 ·obtain ⟨rfl, q, c, rfl⟩ := h.at0 (by omega)
  clear h hl hcall
  go_enter Tryz.func105, Tryz.ntmps105
  go_wp2_with fail
  go_loopw [8] (fun v8 wr => v8 = .int .i64 0 ∧ Old w wr) (fun _ _ => 0)
  case atStart => exact ⟨rfl, Keeps.refl _ _⟩
  case round =>
   obtain ⟨rfl, hkw⟩ := hrel
   have K1 := Lib.hid hkw
   clear hkw
   go_wp2_with fail
   go_ret
   exact ⟨rfl, K1.out⟩
theorem cff_val (p : Val → Bool) (fv v : Value) (l : List Val) (w : World) (h : SeesR w 4 valL v l) (hf : AskF w fv (fun x => .agg (valL x).toArray) p l) :
  Calls Tryz.prog 62 #[v, fv] w fun e w' => e = .returned (.bool (l.any p)) ∧ Old w w' := by
 have C := Lib.hid (ixf_val p fv v l w h hf)
 obtain ⟨q, c, rfl, h1, h2⟩ := h.len
 obtain ⟨g, bd, lb, rfl, hent, hcall⟩ := hf
 clear h h1 h2 hcall
 go_enter Tryz.func62, Tryz.ntmps62
 go_wp2_with fail
 refine C.out.mono ?_
 rintro e w' ⟨rfl, hk⟩
 have HI := Lib.hid (And.intro (fIdx_any p l) hk)
 clear hk
 go_wp2_with fail
 go_ret
 exact ⟨ret_bool HI.out.1, HI.out.2⟩
end
end Go.Proofs.YtehmlaplodjenaaGreat
