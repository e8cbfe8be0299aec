/- DERIVED. Predicates: pred.MayCons and pred.May. -/
import Derived.Test.YtehmlaplodjenaaGreatYpTopDual03
import Derived.Test.YtehmlaplodjenaaGreatYpTopDual02
set_option maxRecDepth 100000
set_option maxHeartbeats 1000000
namespace Go.Proofs.YtehmlaplodjenaaGreat
section
open Go.RowKit
theorem may_cons_any (x : Con) (w : World) (h : SeesV w x.sv x.set) : Calls Tryz.prog 25 #[.agg x.cells.toArray] w fun e w' => e = .returned (.bool (conOk x)) ∧ Old w w' := by
 have B := fun W => eql_bare x.val W
 have V := fun W => val_any x.val W
 have S := fun W (hW : Old w W) => contains_set_any x.sv x.set W (h.old hW) (fun _ _ => trivial) (fun y _ W' _ => may_cons1_any y W')
 obtain ⟨nm, op, ⟨k, n, s, b⟩, sv, set⟩ := x
 obtain ⟨p, c, hsv, _, _⟩ := h.len
 simp only at hsv
 subst hsv
 unfold Con.cells
 unfold Val.cells at B V
 simp only at B V S ⊢
 obtain ⟨W0, hW0⟩ : ∃ W0, w.alloc (.cells #[.string nm, .int .i64 op, .int .i64 k, .int .i64 n, .string s, .bool b, .slice p set.length c] 78) = W0 := ⟨_, rfl⟩
 have k0 : Old w W0 := by rw [← hW0]; exact (Keeps.refl _ _).alloc _
 have hb0 : W0.heap[w.heap.size]? = some (.cells #[.string nm, .int .i64 op, .int .i64 k, .int .i64 n, .string s, .bool b, .slice p set.length c] 78 (0, 0)) := by rw [← hW0]; exact heap_alloc_new _ _
 have a0 : W0.cell? ⟨w.heap.size, 0, none⟩ = some (.string nm) := by simp [World.cell?, hb0]
 have a1 : W0.cell? ⟨w.heap.size, 1, none⟩ = some (.int .i64 op) := by simp [World.cell?, hb0]
 have a2 : W0.cell? ⟨w.heap.size, 2, none⟩ = some (.int .i64 k) := by simp [World.cell?, hb0]
 have a3 : W0.cell? ⟨w.heap.size, 3, none⟩ = some (.int .i64 n) := by simp [World.cell?, hb0]
 have a4 : W0.cell? ⟨w.heap.size, 4, none⟩ = some (.string s) := by simp [World.cell?, hb0]
 have a5 : W0.cell? ⟨w.heap.size, 5, none⟩ = some (.bool b) := by simp [World.cell?, hb0]
 have a6 : W0.cell? ⟨w.heap.size, 6, none⟩ = some (.slice p set.length c) := by simp [World.cell?, hb0]
 have K0 := Lib.hid k0
 have HB0 := Lib.hid hb0
 have HS := Lib.hid (S W0 k0)
 have HV := Lib.hid V
 clear k0 hb0 S V h
 by_cases g1 : 1 ≤ nm.size
 case neg =>
  have d1 : decide ((nm.size : Int) < 1) = true := by simp; omega
  go_enter Tryz.func25, Tryz.ntmps25
  go_wp2_with fail
  go_ret
  exact ⟨ret_bool (by unfold conOk; simp only; rw [decide_eq_false g1]; rfl), K0.out⟩
 case pos =>
 by_cases g2 : nm.size ≤ 16
 case neg =>
  have d1 : decide ((nm.size : Int) < 1) = false := by simp; omega
  have d2 : decide ((nm.size : Int) > 16) = true := by simp; omega
  go_enter Tryz.func25, Tryz.ntmps25
  go_wp2_with fail
  go_ret
  exact ⟨ret_bool (by unfold conOk; simp only; rw [decide_eq_false g2, Bool.and_false]; rfl), K0.out⟩
 case pos =>
 have d1 : decide ((nm.size : Int) < 1) = false := by simp; omega
 have d2 : decide ((nm.size : Int) > 16) = false := by simp; omega
 have hok : conOk ⟨nm, op, ⟨k, n, s, b⟩, .slice p set.length c, set⟩ = (if op = 1 then bare ⟨k, n, s, b⟩ && decide (set.length = 0)
   else if 2 ≤ op ∧ op ≤ 7 then (Val.mk k n s b).ok && decide (set.length = 0)
   else if op = 8 then (Val.mk k n s b).ok && (decide (k = 2) && decide (set.length = 0))
   else if op = 9 then bare ⟨k, n, s, b⟩ && (decide (1 ≤ set.length) && (decide (set.length ≤ 6) && set.all Val.ok))
   else false) := by
  unfold conOk; simp only; rw [decide_eq_true g1, decide_eq_true g2]; rfl
 rw [hok]
 clear hok
 obtain ⟨br, hbr⟩ : ∃ t, bare ⟨k, n, s, b⟩ = t := ⟨_, rfl⟩
 obtain ⟨vo, hvo⟩ : ∃ t, (Val.mk k n s b).ok = t := ⟨_, rfl⟩
 obtain ⟨al, hal⟩ : ∃ t, set.all Val.ok = t := ⟨_, rfl⟩
 rw [hbr] at B
 rw [hbr, hvo, hal]
 have hv := HV.out
 rw [hvo] at hv
 have hs := HS.out
 rw [hal] at hs
 have HVV := Lib.hid hv
 have HSS := Lib.hid hs
 clear hbr hvo hal hv hs HV HS
 by_cases h1 : op = 1
 ·subst h1
  cases br
  ·go_enter Tryz.func25, Tryz.ntmps25
   go_wp2_with fail
   refine HSS.out.mono ?_
   rintro e w1 ⟨rfl, hk1⟩
   have hb1 := (hk1.block _ (lt_of_heap HB0.out) (fun f => f)).trans HB0.out
   have e0 : w1.cell? ⟨w.heap.size, 0, none⟩ = some (.string nm) := by simp [World.cell?, hb1]
   have e1 : w1.cell? ⟨w.heap.size, 1, none⟩ = some (.int .i64 1) := by simp [World.cell?, hb1]
   have e2 : w1.cell? ⟨w.heap.size, 2, none⟩ = some (.int .i64 k) := by simp [World.cell?, hb1]
   have e3 : w1.cell? ⟨w.heap.size, 3, none⟩ = some (.int .i64 n) := by simp [World.cell?, hb1]
   have e4 : w1.cell? ⟨w.heap.size, 4, none⟩ = some (.string s) := by simp [World.cell?, hb1]
   have e5 : w1.cell? ⟨w.heap.size, 5, none⟩ = some (.bool b) := by simp [World.cell?, hb1]
   have e6 : w1.cell? ⟨w.heap.size, 6, none⟩ = some (.slice p set.length c) := by simp [World.cell?, hb1]
   have K1 := Lib.hid (K0.out.trans hk1)
   have HB1 := Lib.hid hb1
   clear hk1 hb1 a0 a1 a2 a3 a4 a5 a6
   go_wp2_with fail
   go_ret
   exact ⟨ret_bool (by simp), K1.out⟩
  ·by_cases hz : set.length = 0
   ·have dz : ((set.length : Int) == 0) = true := by rw [hz]; rfl
    have HZ := Lib.hid hz
    clear hz
    go_enter Tryz.func25, Tryz.ntmps25
    go_wp2_with fail
    refine HSS.out.mono ?_
    rintro e w1 ⟨rfl, hk1⟩
    have hb1 := (hk1.block _ (lt_of_heap HB0.out) (fun f => f)).trans HB0.out
    have e0 : w1.cell? ⟨w.heap.size, 0, none⟩ = some (.string nm) := by simp [World.cell?, hb1]
    have e1 : w1.cell? ⟨w.heap.size, 1, none⟩ = some (.int .i64 1) := by simp [World.cell?, hb1]
    have e2 : w1.cell? ⟨w.heap.size, 2, none⟩ = some (.int .i64 k) := by simp [World.cell?, hb1]
    have e3 : w1.cell? ⟨w.heap.size, 3, none⟩ = some (.int .i64 n) := by simp [World.cell?, hb1]
    have e4 : w1.cell? ⟨w.heap.size, 4, none⟩ = some (.string s) := by simp [World.cell?, hb1]
    have e5 : w1.cell? ⟨w.heap.size, 5, none⟩ = some (.bool b) := by simp [World.cell?, hb1]
    have e6 : w1.cell? ⟨w.heap.size, 6, none⟩ = some (.slice p set.length c) := by simp [World.cell?, hb1]
    have K1 := Lib.hid (K0.out.trans hk1)
    have HB1 := Lib.hid hb1
    clear hk1 hb1 a0 a1 a2 a3 a4 a5 a6
    go_wp2_with fail
    go_ret
    exact ⟨ret_bool (by first | (simp [List.length_eq_zero_iff.1 HZ.out]; done) | (simp; intro hh; exact absurd (by rw [hh]; rfl) HZ.out) | simp [HZ.out]), K1.out⟩
   ·have dz : ((set.length : Int) == 0) = false := beq_eq_false_iff_ne.2 (by omega)
    have HZ := Lib.hid hz
    clear hz
    go_enter Tryz.func25, Tryz.ntmps25
    go_wp2_with fail
    refine HSS.out.mono ?_
    rintro e w1 ⟨rfl, hk1⟩
    have hb1 := (hk1.block _ (lt_of_heap HB0.out) (fun f => f)).trans HB0.out
    have e0 : w1.cell? ⟨w.heap.size, 0, none⟩ = some (.string nm) := by simp [World.cell?, hb1]
    have e1 : w1.cell? ⟨w.heap.size, 1, none⟩ = some (.int .i64 1) := by simp [World.cell?, hb1]
    have e2 : w1.cell? ⟨w.heap.size, 2, none⟩ = some (.int .i64 k) := by simp [World.cell?, hb1]
    have e3 : w1.cell? ⟨w.heap.size, 3, none⟩ = some (.int .i64 n) := by simp [World.cell?, hb1]
    have e4 : w1.cell? ⟨w.heap.size, 4, none⟩ = some (.string s) := by simp [World.cell?, hb1]
    have e5 : w1.cell? ⟨w.heap.size, 5, none⟩ = some (.bool b) := by simp [World.cell?, hb1]
    have e6 : w1.cell? ⟨w.heap.size, 6, none⟩ = some (.slice p set.length c) := by simp [World.cell?, hb1]
    have K1 := Lib.hid (K0.out.trans hk1)
    have HB1 := Lib.hid hb1
    clear hk1 hb1 a0 a1 a2 a3 a4 a5 a6
    go_wp2_with fail
    go_ret
    exact ⟨ret_bool (by first | (simp [List.length_eq_zero_iff.1 HZ.out]; done) | (simp; intro hh; exact absurd (by rw [hh]; rfl) HZ.out) | simp [HZ.out]), K1.out⟩
 by_cases h2 : 2 ≤ op ∧ op ≤ 7
 ·obtain ⟨o1, o2⟩ := h2
  rw [if_neg h1, if_pos ⟨o1, o2⟩]
  have t1 : (op == 1) = false := beq_eq_false_iff_ne.2 h1
  have t2 : decide (op ≥ 2) = true := decide_eq_true o1
  have t3 : decide (op ≤ 7) = true := decide_eq_true o2
  clear h1
  cases vo
  ·go_enter Tryz.func25, Tryz.ntmps25
   go_wp2_with fail
   refine HSS.out.mono ?_
   rintro e w1 ⟨rfl, hk1⟩
   have hb1 := (hk1.block _ (lt_of_heap HB0.out) (fun f => f)).trans HB0.out
   have e0 : w1.cell? ⟨w.heap.size, 0, none⟩ = some (.string nm) := by simp [World.cell?, hb1]
   have e1 : w1.cell? ⟨w.heap.size, 1, none⟩ = some (.int .i64 op) := by simp [World.cell?, hb1]
   have e2 : w1.cell? ⟨w.heap.size, 2, none⟩ = some (.int .i64 k) := by simp [World.cell?, hb1]
   have e3 : w1.cell? ⟨w.heap.size, 3, none⟩ = some (.int .i64 n) := by simp [World.cell?, hb1]
   have e4 : w1.cell? ⟨w.heap.size, 4, none⟩ = some (.string s) := by simp [World.cell?, hb1]
   have e5 : w1.cell? ⟨w.heap.size, 5, none⟩ = some (.bool b) := by simp [World.cell?, hb1]
   have e6 : w1.cell? ⟨w.heap.size, 6, none⟩ = some (.slice p set.length c) := by simp [World.cell?, hb1]
   have K1 := Lib.hid (K0.out.trans hk1)
   have HB1 := Lib.hid hb1
   clear hk1 hb1 a0 a1 a2 a3 a4 a5 a6
   go_wp2_with fail
   refine (HVV.out _).mono ?_
   rintro e w2 ⟨rfl, hk2⟩
   have hb2 := (hk2.block _ (lt_of_heap HB1.out) (fun f => f)).trans HB1.out
   have f0 : w2.cell? ⟨w.heap.size, 0, none⟩ = some (.string nm) := by simp [World.cell?, hb2]
   have f1 : w2.cell? ⟨w.heap.size, 1, none⟩ = some (.int .i64 op) := by simp [World.cell?, hb2]
   have f2 : w2.cell? ⟨w.heap.size, 2, none⟩ = some (.int .i64 k) := by simp [World.cell?, hb2]
   have f3 : w2.cell? ⟨w.heap.size, 3, none⟩ = some (.int .i64 n) := by simp [World.cell?, hb2]
   have f4 : w2.cell? ⟨w.heap.size, 4, none⟩ = some (.string s) := by simp [World.cell?, hb2]
   have f5 : w2.cell? ⟨w.heap.size, 5, none⟩ = some (.bool b) := by simp [World.cell?, hb2]
   have f6 : w2.cell? ⟨w.heap.size, 6, none⟩ = some (.slice p set.length c) := by simp [World.cell?, hb2]
   have K2 := Lib.hid (K1.out.trans hk2)
   clear hk2 hb2 e0 e1 e2 e3 e4 e5 e6
   go_wp2_with fail
   go_ret
   exact ⟨ret_bool (by simp), K2.out⟩
  ·by_cases hz : set.length = 0
   ·have dz : ((set.length : Int) == 0) = true := by rw [hz]; rfl
    have HZ := Lib.hid hz
    clear hz
    go_enter Tryz.func25, Tryz.ntmps25
    go_wp2_with fail
    refine HSS.out.mono ?_
    rintro e w1 ⟨rfl, hk1⟩
    have hb1 := (hk1.block _ (lt_of_heap HB0.out) (fun f => f)).trans HB0.out
    have e0 : w1.cell? ⟨w.heap.size, 0, none⟩ = some (.string nm) := by simp [World.cell?, hb1]
    have e1 : w1.cell? ⟨w.heap.size, 1, none⟩ = some (.int .i64 op) := by simp [World.cell?, hb1]
    have e2 : w1.cell? ⟨w.heap.size, 2, none⟩ = some (.int .i64 k) := by simp [World.cell?, hb1]
    have e3 : w1.cell? ⟨w.heap.size, 3, none⟩ = some (.int .i64 n) := by simp [World.cell?, hb1]
    have e4 : w1.cell? ⟨w.heap.size, 4, none⟩ = some (.string s) := by simp [World.cell?, hb1]
    have e5 : w1.cell? ⟨w.heap.size, 5, none⟩ = some (.bool b) := by simp [World.cell?, hb1]
    have e6 : w1.cell? ⟨w.heap.size, 6, none⟩ = some (.slice p set.length c) := by simp [World.cell?, hb1]
    have K1 := Lib.hid (K0.out.trans hk1)
    have HB1 := Lib.hid hb1
    clear hk1 hb1 a0 a1 a2 a3 a4 a5 a6
    go_wp2_with fail
    refine (HVV.out _).mono ?_
    rintro e w2 ⟨rfl, hk2⟩
    have hb2 := (hk2.block _ (lt_of_heap HB1.out) (fun f => f)).trans HB1.out
    have f0 : w2.cell? ⟨w.heap.size, 0, none⟩ = some (.string nm) := by simp [World.cell?, hb2]
    have f1 : w2.cell? ⟨w.heap.size, 1, none⟩ = some (.int .i64 op) := by simp [World.cell?, hb2]
    have f2 : w2.cell? ⟨w.heap.size, 2, none⟩ = some (.int .i64 k) := by simp [World.cell?, hb2]
    have f3 : w2.cell? ⟨w.heap.size, 3, none⟩ = some (.int .i64 n) := by simp [World.cell?, hb2]
    have f4 : w2.cell? ⟨w.heap.size, 4, none⟩ = some (.string s) := by simp [World.cell?, hb2]
    have f5 : w2.cell? ⟨w.heap.size, 5, none⟩ = some (.bool b) := by simp [World.cell?, hb2]
    have f6 : w2.cell? ⟨w.heap.size, 6, none⟩ = some (.slice p set.length c) := by simp [World.cell?, hb2]
    have K2 := Lib.hid (K1.out.trans hk2)
    clear hk2 hb2 e0 e1 e2 e3 e4 e5 e6
    go_wp2_with fail
    go_ret
    exact ⟨ret_bool (by first | (simp [List.length_eq_zero_iff.1 HZ.out]; done) | (simp; intro hh; exact absurd (by rw [hh]; rfl) HZ.out) | simp [HZ.out]), K2.out⟩
   ·have dz : ((set.length : Int) == 0) = false := beq_eq_false_iff_ne.2 (by omega)
    have HZ := Lib.hid hz
    clear hz
    go_enter Tryz.func25, Tryz.ntmps25
    go_wp2_with fail
    refine HSS.out.mono ?_
    rintro e w1 ⟨rfl, hk1⟩
    have hb1 := (hk1.block _ (lt_of_heap HB0.out) (fun f => f)).trans HB0.out
    have e0 : w1.cell? ⟨w.heap.size, 0, none⟩ = some (.string nm) := by simp [World.cell?, hb1]
    have e1 : w1.cell? ⟨w.heap.size, 1, none⟩ = some (.int .i64 op) := by simp [World.cell?, hb1]
    have e2 : w1.cell? ⟨w.heap.size, 2, none⟩ = some (.int .i64 k) := by simp [World.cell?, hb1]
    have e3 : w1.cell? ⟨w.heap.size, 3, none⟩ = some (.int .i64 n) := by simp [World.cell?, hb1]
    have e4 : w1.cell? ⟨w.heap.size, 4, none⟩ = some (.string s) := by simp [World.cell?, hb1]
    have e5 : w1.cell? ⟨w.heap.size, 5, none⟩ = some (.bool b) := by simp [World.cell?, hb1]
    have e6 : w1.cell? ⟨w.heap.size, 6, none⟩ = some (.slice p set.length c) := by simp [World.cell?, hb1]
    have K1 := Lib.hid (K0.out.trans hk1)
    have HB1 := Lib.hid hb1
    clear hk1 hb1 a0 a1 a2 a3 a4 a5 a6
    go_wp2_with fail
    refine (HVV.out _).mono ?_
    rintro e w2 ⟨rfl, hk2⟩
    have hb2 := (hk2.block _ (lt_of_heap HB1.out) (fun f => f)).trans HB1.out
    have f0 : w2.cell? ⟨w.heap.size, 0, none⟩ = some (.string nm) := by simp [World.cell?, hb2]
    have f1 : w2.cell? ⟨w.heap.size, 1, none⟩ = some (.int .i64 op) := by simp [World.cell?, hb2]
    have f2 : w2.cell? ⟨w.heap.size, 2, none⟩ = some (.int .i64 k) := by simp [World.cell?, hb2]
    have f3 : w2.cell? ⟨w.heap.size, 3, none⟩ = some (.int .i64 n) := by simp [World.cell?, hb2]
    have f4 : w2.cell? ⟨w.heap.size, 4, none⟩ = some (.string s) := by simp [World.cell?, hb2]
    have f5 : w2.cell? ⟨w.heap.size, 5, none⟩ = some (.bool b) := by simp [World.cell?, hb2]
    have f6 : w2.cell? ⟨w.heap.size, 6, none⟩ = some (.slice p set.length c) := by simp [World.cell?, hb2]
    have K2 := Lib.hid (K1.out.trans hk2)
    clear hk2 hb2 e0 e1 e2 e3 e4 e5 e6
    go_wp2_with fail
    go_ret
    exact ⟨ret_bool (by first | (simp [List.length_eq_zero_iff.1 HZ.out]; done) | (simp; intro hh; exact absurd (by rw [hh]; rfl) HZ.out) | simp [HZ.out]), K2.out⟩
 by_cases h8 : op = 8
 ·subst h8
  rw [if_neg h1, if_neg h2, if_pos rfl]
  clear h1 h2
  cases vo
  ·go_enter Tryz.func25, Tryz.ntmps25
   go_wp2_with fail
   refine HSS.out.mono ?_
   rintro e w1 ⟨rfl, hk1⟩
   have hb1 := (hk1.block _ (lt_of_heap HB0.out) (fun f => f)).trans HB0.out
   have e0 : w1.cell? ⟨w.heap.size, 0, none⟩ = some (.string nm) := by simp [World.cell?, hb1]
   have e1 : w1.cell? ⟨w.heap.size, 1, none⟩ = some (.int .i64 8) := by simp [World.cell?, hb1]
   have e2 : w1.cell? ⟨w.heap.size, 2, none⟩ = some (.int .i64 k) := by simp [World.cell?, hb1]
   have e3 : w1.cell? ⟨w.heap.size, 3, none⟩ = some (.int .i64 n) := by simp [World.cell?, hb1]
   have e4 : w1.cell? ⟨w.heap.size, 4, none⟩ = some (.string s) := by simp [World.cell?, hb1]
   have e5 : w1.cell? ⟨w.heap.size, 5, none⟩ = some (.bool b) := by simp [World.cell?, hb1]
   have e6 : w1.cell? ⟨w.heap.size, 6, none⟩ = some (.slice p set.length c) := by simp [World.cell?, hb1]
   have K1 := Lib.hid (K0.out.trans hk1)
   have HB1 := Lib.hid hb1
   clear hk1 hb1 a0 a1 a2 a3 a4 a5 a6
   go_wp2_with fail
   refine (HVV.out _).mono ?_
   rintro e w2 ⟨rfl, hk2⟩
   have hb2 := (hk2.block _ (lt_of_heap HB1.out) (fun f => f)).trans HB1.out
   have f0 : w2.cell? ⟨w.heap.size, 0, none⟩ = some (.string nm) := by simp [World.cell?, hb2]
   have f1 : w2.cell? ⟨w.heap.size, 1, none⟩ = some (.int .i64 8) := by simp [World.cell?, hb2]
   have f2 : w2.cell? ⟨w.heap.size, 2, none⟩ = some (.int .i64 k) := by simp [World.cell?, hb2]
   have f3 : w2.cell? ⟨w.heap.size, 3, none⟩ = some (.int .i64 n) := by simp [World.cell?, hb2]
   have f4 : w2.cell? ⟨w.heap.size, 4, none⟩ = some (.string s) := by simp [World.cell?, hb2]
   have f5 : w2.cell? ⟨w.heap.size, 5, none⟩ = some (.bool b) := by simp [World.cell?, hb2]
   have f6 : w2.cell? ⟨w.heap.size, 6, none⟩ = some (.slice p set.length c) := by simp [World.cell?, hb2]
   have K2 := Lib.hid (K1.out.trans hk2)
   clear hk2 hb2 e0 e1 e2 e3 e4 e5 e6
   go_wp2_with fail
   go_ret
   exact ⟨ret_bool (by simp), K2.out⟩
  ·by_cases hk2 : k = 2
   ·have dk : (k == 2) = true := by simp [hk2]
    have HK := Lib.hid hk2
    clear hk2
    by_cases hz : set.length = 0
    ·have dz : ((set.length : Int) == 0) = true := by rw [hz]; rfl
     have HZ := Lib.hid hz
     clear hz
     go_enter Tryz.func25, Tryz.ntmps25
     go_wp2_with fail
     refine HSS.out.mono ?_
     rintro e w1 ⟨rfl, hk1⟩
     have hb1 := (hk1.block _ (lt_of_heap HB0.out) (fun f => f)).trans HB0.out
     have e0 : w1.cell? ⟨w.heap.size, 0, none⟩ = some (.string nm) := by simp [World.cell?, hb1]
     have e1 : w1.cell? ⟨w.heap.size, 1, none⟩ = some (.int .i64 8) := by simp [World.cell?, hb1]
     have e2 : w1.cell? ⟨w.heap.size, 2, none⟩ = some (.int .i64 k) := by simp [World.cell?, hb1]
     have e3 : w1.cell? ⟨w.heap.size, 3, none⟩ = some (.int .i64 n) := by simp [World.cell?, hb1]
     have e4 : w1.cell? ⟨w.heap.size, 4, none⟩ = some (.string s) := by simp [World.cell?, hb1]
     have e5 : w1.cell? ⟨w.heap.size, 5, none⟩ = some (.bool b) := by simp [World.cell?, hb1]
     have e6 : w1.cell? ⟨w.heap.size, 6, none⟩ = some (.slice p set.length c) := by simp [World.cell?, hb1]
     have K1 := Lib.hid (K0.out.trans hk1)
     have HB1 := Lib.hid hb1
     clear hk1 hb1 a0 a1 a2 a3 a4 a5 a6
     go_wp2_with fail
     refine (HVV.out _).mono ?_
     rintro e w2 ⟨rfl, hk2⟩
     have hb2 := (hk2.block _ (lt_of_heap HB1.out) (fun f => f)).trans HB1.out
     have f0 : w2.cell? ⟨w.heap.size, 0, none⟩ = some (.string nm) := by simp [World.cell?, hb2]
     have f1 : w2.cell? ⟨w.heap.size, 1, none⟩ = some (.int .i64 8) := by simp [World.cell?, hb2]
     have f2 : w2.cell? ⟨w.heap.size, 2, none⟩ = some (.int .i64 k) := by simp [World.cell?, hb2]
     have f3 : w2.cell? ⟨w.heap.size, 3, none⟩ = some (.int .i64 n) := by simp [World.cell?, hb2]
     have f4 : w2.cell? ⟨w.heap.size, 4, none⟩ = some (.string s) := by simp [World.cell?, hb2]
     have f5 : w2.cell? ⟨w.heap.size, 5, none⟩ = some (.bool b) := by simp [World.cell?, hb2]
     have f6 : w2.cell? ⟨w.heap.size, 6, none⟩ = some (.slice p set.length c) := by simp [World.cell?, hb2]
     have K2 := Lib.hid (K1.out.trans hk2)
     clear hk2 hb2 e0 e1 e2 e3 e4 e5 e6
     go_wp2_with fail
     go_ret
     exact ⟨ret_bool (by first | (simp [List.length_eq_zero_iff.1 HZ.out, HK.out]; done) | simp [HZ.out, HK.out]), K2.out⟩
    ·have dz : ((set.length : Int) == 0) = false := beq_eq_false_iff_ne.2 (by omega)
     have HZ := Lib.hid hz
     clear hz
     go_enter Tryz.func25, Tryz.ntmps25
     go_wp2_with fail
     refine HSS.out.mono ?_
     rintro e w1 ⟨rfl, hk1⟩
     have hb1 := (hk1.block _ (lt_of_heap HB0.out) (fun f => f)).trans HB0.out
     have e0 : w1.cell? ⟨w.heap.size, 0, none⟩ = some (.string nm) := by simp [World.cell?, hb1]
     have e1 : w1.cell? ⟨w.heap.size, 1, none⟩ = some (.int .i64 8) := by simp [World.cell?, hb1]
     have e2 : w1.cell? ⟨w.heap.size, 2, none⟩ = some (.int .i64 k) := by simp [World.cell?, hb1]
     have e3 : w1.cell? ⟨w.heap.size, 3, none⟩ = some (.int .i64 n) := by simp [World.cell?, hb1]
     have e4 : w1.cell? ⟨w.heap.size, 4, none⟩ = some (.string s) := by simp [World.cell?, hb1]
     have e5 : w1.cell? ⟨w.heap.size, 5, none⟩ = some (.bool b) := by simp [World.cell?, hb1]
     have e6 : w1.cell? ⟨w.heap.size, 6, none⟩ = some (.slice p set.length c) := by simp [World.cell?, hb1]
     have K1 := Lib.hid (K0.out.trans hk1)
     have HB1 := Lib.hid hb1
     clear hk1 hb1 a0 a1 a2 a3 a4 a5 a6
     go_wp2_with fail
     refine (HVV.out _).mono ?_
     rintro e w2 ⟨rfl, hk2⟩
     have hb2 := (hk2.block _ (lt_of_heap HB1.out) (fun f => f)).trans HB1.out
     have f0 : w2.cell? ⟨w.heap.size, 0, none⟩ = some (.string nm) := by simp [World.cell?, hb2]
     have f1 : w2.cell? ⟨w.heap.size, 1, none⟩ = some (.int .i64 8) := by simp [World.cell?, hb2]
     have f2 : w2.cell? ⟨w.heap.size, 2, none⟩ = some (.int .i64 k) := by simp [World.cell?, hb2]
     have f3 : w2.cell? ⟨w.heap.size, 3, none⟩ = some (.int .i64 n) := by simp [World.cell?, hb2]
     have f4 : w2.cell? ⟨w.heap.size, 4, none⟩ = some (.string s) := by simp [World.cell?, hb2]
     have f5 : w2.cell? ⟨w.heap.size, 5, none⟩ = some (.bool b) := by simp [World.cell?, hb2]
     have f6 : w2.cell? ⟨w.heap.size, 6, none⟩ = some (.slice p set.length c) := by simp [World.cell?, hb2]
     have K2 := Lib.hid (K1.out.trans hk2)
     clear hk2 hb2 e0 e1 e2 e3 e4 e5 e6
     go_wp2_with fail
     go_ret
     exact ⟨ret_bool (by first | (simp [List.length_eq_zero_iff.1 HZ.out]; done) | (simp; intro hh; exact absurd (by rw [hh]; rfl) HZ.out) | simp [HZ.out]), K2.out⟩
   ·have dk : (k == 2) = false := beq_eq_false_iff_ne.2 hk2
    have HK := Lib.hid hk2
    clear hk2
    go_enter Tryz.func25, Tryz.ntmps25
    go_wp2_with fail
    refine HSS.out.mono ?_
    rintro e w1 ⟨rfl, hk1⟩
    have hb1 := (hk1.block _ (lt_of_heap HB0.out) (fun f => f)).trans HB0.out
    have e0 : w1.cell? ⟨w.heap.size, 0, none⟩ = some (.string nm) := by simp [World.cell?, hb1]
    have e1 : w1.cell? ⟨w.heap.size, 1, none⟩ = some (.int .i64 8) := by simp [World.cell?, hb1]
    have e2 : w1.cell? ⟨w.heap.size, 2, none⟩ = some (.int .i64 k) := by simp [World.cell?, hb1]
    have e3 : w1.cell? ⟨w.heap.size, 3, none⟩ = some (.int .i64 n) := by simp [World.cell?, hb1]
    have e4 : w1.cell? ⟨w.heap.size, 4, none⟩ = some (.string s) := by simp [World.cell?, hb1]
    have e5 : w1.cell? ⟨w.heap.size, 5, none⟩ = some (.bool b) := by simp [World.cell?, hb1]
    have e6 : w1.cell? ⟨w.heap.size, 6, none⟩ = some (.slice p set.length c) := by simp [World.cell?, hb1]
    have K1 := Lib.hid (K0.out.trans hk1)
    have HB1 := Lib.hid hb1
    clear hk1 hb1 a0 a1 a2 a3 a4 a5 a6
    go_wp2_with fail
    refine (HVV.out _).mono ?_
    rintro e w2 ⟨rfl, hk2⟩
    have hb2 := (hk2.block _ (lt_of_heap HB1.out) (fun f => f)).trans HB1.out
    have f0 : w2.cell? ⟨w.heap.size, 0, none⟩ = some (.string nm) := by simp [World.cell?, hb2]
    have f1 : w2.cell? ⟨w.heap.size, 1, none⟩ = some (.int .i64 8) := by simp [World.cell?, hb2]
    have f2 : w2.cell? ⟨w.heap.size, 2, none⟩ = some (.int .i64 k) := by simp [World.cell?, hb2]
    have f3 : w2.cell? ⟨w.heap.size, 3, none⟩ = some (.int .i64 n) := by simp [World.cell?, hb2]
    have f4 : w2.cell? ⟨w.heap.size, 4, none⟩ = some (.string s) := by simp [World.cell?, hb2]
    have f5 : w2.cell? ⟨w.heap.size, 5, none⟩ = some (.bool b) := by simp [World.cell?, hb2]
    have f6 : w2.cell? ⟨w.heap.size, 6, none⟩ = some (.slice p set.length c) := by simp [World.cell?, hb2]
    have K2 := Lib.hid (K1.out.trans hk2)
    clear hk2 hb2 e0 e1 e2 e3 e4 e5 e6
    go_wp2_with fail
    go_ret
    exact ⟨ret_bool (by simp [HK.out]), K2.out⟩
 by_cases h9 : op = 9
 ·subst h9
  rw [if_neg h1, if_neg h2, if_neg h8, if_pos rfl]
  clear h1 h2 h8
  cases br
  ·go_enter Tryz.func25, Tryz.ntmps25
   go_wp2_with fail
   refine HSS.out.mono ?_
   rintro e w1 ⟨rfl, hk1⟩
   have hb1 := (hk1.block _ (lt_of_heap HB0.out) (fun f => f)).trans HB0.out
   have e0 : w1.cell? ⟨w.heap.size, 0, none⟩ = some (.string nm) := by simp [World.cell?, hb1]
   have e1 : w1.cell? ⟨w.heap.size, 1, none⟩ = some (.int .i64 9) := by simp [World.cell?, hb1]
   have e2 : w1.cell? ⟨w.heap.size, 2, none⟩ = some (.int .i64 k) := by simp [World.cell?, hb1]
   have e3 : w1.cell? ⟨w.heap.size, 3, none⟩ = some (.int .i64 n) := by simp [World.cell?, hb1]
   have e4 : w1.cell? ⟨w.heap.size, 4, none⟩ = some (.string s) := by simp [World.cell?, hb1]
   have e5 : w1.cell? ⟨w.heap.size, 5, none⟩ = some (.bool b) := by simp [World.cell?, hb1]
   have e6 : w1.cell? ⟨w.heap.size, 6, none⟩ = some (.slice p set.length c) := by simp [World.cell?, hb1]
   have K1 := Lib.hid (K0.out.trans hk1)
   have HB1 := Lib.hid hb1
   clear hk1 hb1 a0 a1 a2 a3 a4 a5 a6
   go_wp2_with fail
   go_ret
   exact ⟨ret_bool (by simp), K1.out⟩
  ·by_cases hz : 1 ≤ set.length
   ·have dz : decide ((set.length : Int) ≥ 1) = true := by simp; omega
    by_cases hy : set.length ≤ 6
    ·have dy : decide ((set.length : Int) ≤ 6) = true := by simp; omega
     have HZ := Lib.hid (And.intro hz hy)
     clear hz hy
     go_enter Tryz.func25, Tryz.ntmps25
     go_wp2_with fail
     refine HSS.out.mono ?_
     rintro e w1 ⟨rfl, hk1⟩
     have hb1 := (hk1.block _ (lt_of_heap HB0.out) (fun f => f)).trans HB0.out
     have e0 : w1.cell? ⟨w.heap.size, 0, none⟩ = some (.string nm) := by simp [World.cell?, hb1]
     have e1 : w1.cell? ⟨w.heap.size, 1, none⟩ = some (.int .i64 9) := by simp [World.cell?, hb1]
     have e2 : w1.cell? ⟨w.heap.size, 2, none⟩ = some (.int .i64 k) := by simp [World.cell?, hb1]
     have e3 : w1.cell? ⟨w.heap.size, 3, none⟩ = some (.int .i64 n) := by simp [World.cell?, hb1]
     have e4 : w1.cell? ⟨w.heap.size, 4, none⟩ = some (.string s) := by simp [World.cell?, hb1]
     have e5 : w1.cell? ⟨w.heap.size, 5, none⟩ = some (.bool b) := by simp [World.cell?, hb1]
     have e6 : w1.cell? ⟨w.heap.size, 6, none⟩ = some (.slice p set.length c) := by simp [World.cell?, hb1]
     have K1 := Lib.hid (K0.out.trans hk1)
     have HB1 := Lib.hid hb1
     clear hk1 hb1 a0 a1 a2 a3 a4 a5 a6
     go_wp2_with fail
     go_ret
     exact ⟨ret_bool (by simp [HZ.out.1, HZ.out.2]), K1.out⟩
    ·have dy : decide ((set.length : Int) ≤ 6) = false := by simp; omega
     have HZ := Lib.hid hy
     clear hz hy
     go_enter Tryz.func25, Tryz.ntmps25
     go_wp2_with fail
     refine HSS.out.mono ?_
     rintro e w1 ⟨rfl, hk1⟩
     have hb1 := (hk1.block _ (lt_of_heap HB0.out) (fun f => f)).trans HB0.out
     have e0 : w1.cell? ⟨w.heap.size, 0, none⟩ = some (.string nm) := by simp [World.cell?, hb1]
     have e1 : w1.cell? ⟨w.heap.size, 1, none⟩ = some (.int .i64 9) := by simp [World.cell?, hb1]
     have e2 : w1.cell? ⟨w.heap.size, 2, none⟩ = some (.int .i64 k) := by simp [World.cell?, hb1]
     have e3 : w1.cell? ⟨w.heap.size, 3, none⟩ = some (.int .i64 n) := by simp [World.cell?, hb1]
     have e4 : w1.cell? ⟨w.heap.size, 4, none⟩ = some (.string s) := by simp [World.cell?, hb1]
     have e5 : w1.cell? ⟨w.heap.size, 5, none⟩ = some (.bool b) := by simp [World.cell?, hb1]
     have e6 : w1.cell? ⟨w.heap.size, 6, none⟩ = some (.slice p set.length c) := by simp [World.cell?, hb1]
     have K1 := Lib.hid (K0.out.trans hk1)
     have HB1 := Lib.hid hb1
     clear hk1 hb1 a0 a1 a2 a3 a4 a5 a6
     go_wp2_with fail
     go_ret
     exact ⟨ret_bool (by first | (simp [List.length_eq_zero_iff.1 HZ.out]; done) | (simp; intro hh; exact absurd (by rw [hh]; rfl) HZ.out) | simp [HZ.out]), K1.out⟩
   ·have dz : decide ((set.length : Int) ≥ 1) = false := by simp; omega
    have HZ := Lib.hid hz
    clear hz
    go_enter Tryz.func25, Tryz.ntmps25
    go_wp2_with fail
    refine HSS.out.mono ?_
    rintro e w1 ⟨rfl, hk1⟩
    have hb1 := (hk1.block _ (lt_of_heap HB0.out) (fun f => f)).trans HB0.out
    have e0 : w1.cell? ⟨w.heap.size, 0, none⟩ = some (.string nm) := by simp [World.cell?, hb1]
    have e1 : w1.cell? ⟨w.heap.size, 1, none⟩ = some (.int .i64 9) := by simp [World.cell?, hb1]
    have e2 : w1.cell? ⟨w.heap.size, 2, none⟩ = some (.int .i64 k) := by simp [World.cell?, hb1]
    have e3 : w1.cell? ⟨w.heap.size, 3, none⟩ = some (.int .i64 n) := by simp [World.cell?, hb1]
    have e4 : w1.cell? ⟨w.heap.size, 4, none⟩ = some (.string s) := by simp [World.cell?, hb1]
    have e5 : w1.cell? ⟨w.heap.size, 5, none⟩ = some (.bool b) := by simp [World.cell?, hb1]
    have e6 : w1.cell? ⟨w.heap.size, 6, none⟩ = some (.slice p set.length c) := by simp [World.cell?, hb1]
    have K1 := Lib.hid (K0.out.trans hk1)
    have HB1 := Lib.hid hb1
    clear hk1 hb1 a0 a1 a2 a3 a4 a5 a6
    go_wp2_with fail
    go_ret
    exact ⟨ret_bool (by first | (simp [List.length_eq_zero_iff.1 HZ.out]; done) | (simp; intro hh; exact absurd (by rw [hh]; rfl) HZ.out) | simp [HZ.out]), K1.out⟩
 ·rw [if_neg h1, if_neg h2, if_neg h8, if_neg h9]
  have t1 : (op == 1) = false := beq_eq_false_iff_ne.2 h1
  have t8 : (op == 8) = false := beq_eq_false_iff_ne.2 h8
  have t9 : (op == 9) = false := beq_eq_false_iff_ne.2 h9
  by_cases ha : 2 ≤ op
  ·have t2 : decide (op ≥ 2) = true := decide_eq_true ha
   have t3 : decide (op ≤ 7) = false := by simp; omega
   clear h1 h2 h8 h9
   go_enter Tryz.func25, Tryz.ntmps25
   go_wp2_with fail
   refine HSS.out.mono ?_
   rintro e w1 ⟨rfl, hk1⟩
   have hb1 := (hk1.block _ (lt_of_heap HB0.out) (fun f => f)).trans HB0.out
   have e0 : w1.cell? ⟨w.heap.size, 0, none⟩ = some (.string nm) := by simp [World.cell?, hb1]
   have e1 : w1.cell? ⟨w.heap.size, 1, none⟩ = some (.int .i64 op) := by simp [World.cell?, hb1]
   have e2 : w1.cell? ⟨w.heap.size, 2, none⟩ = some (.int .i64 k) := by simp [World.cell?, hb1]
   have e3 : w1.cell? ⟨w.heap.size, 3, none⟩ = some (.int .i64 n) := by simp [World.cell?, hb1]
   have e4 : w1.cell? ⟨w.heap.size, 4, none⟩ = some (.string s) := by simp [World.cell?, hb1]
   have e5 : w1.cell? ⟨w.heap.size, 5, none⟩ = some (.bool b) := by simp [World.cell?, hb1]
   have e6 : w1.cell? ⟨w.heap.size, 6, none⟩ = some (.slice p set.length c) := by simp [World.cell?, hb1]
   have K1 := Lib.hid (K0.out.trans hk1)
   have HB1 := Lib.hid hb1
   clear hk1 hb1 a0 a1 a2 a3 a4 a5 a6
   go_wp2_with fail
   go_ret
   exact ⟨ret_bool (by simp), K1.out⟩
  ·have t2 : decide (op ≥ 2) = false := by simp; omega
   clear h1 h2 h8 h9
   go_enter Tryz.func25, Tryz.ntmps25
   go_wp2_with fail
   refine HSS.out.mono ?_
   rintro e w1 ⟨rfl, hk1⟩
   have hb1 := (hk1.block _ (lt_of_heap HB0.out) (fun f => f)).trans HB0.out
   have e0 : w1.cell? ⟨w.heap.size, 0, none⟩ = some (.string nm) := by simp [World.cell?, hb1]
   have e1 : w1.cell? ⟨w.heap.size, 1, none⟩ = some (.int .i64 op) := by simp [World.cell?, hb1]
   have e2 : w1.cell? ⟨w.heap.size, 2, none⟩ = some (.int .i64 k) := by simp [World.cell?, hb1]
   have e3 : w1.cell? ⟨w.heap.size, 3, none⟩ = some (.int .i64 n) := by simp [World.cell?, hb1]
   have e4 : w1.cell? ⟨w.heap.size, 4, none⟩ = some (.string s) := by simp [World.cell?, hb1]
   have e5 : w1.cell? ⟨w.heap.size, 5, none⟩ = some (.bool b) := by simp [World.cell?, hb1]
   have e6 : w1.cell? ⟨w.heap.size, 6, none⟩ = some (.slice p set.length c) := by simp [World.cell?, hb1]
   have K1 := Lib.hid (K0.out.trans hk1)
   have HB1 := Lib.hid hb1
   clear hk1 hb1 a0 a1 a2 a3 a4 a5 a6
   go_wp2_with fail
   go_ret
   exact ⟨ret_bool (by simp), K1.out⟩
def Con.fine (w : World) (x : Con) : Prop := SeesV w x.sv x.set ∧ (x.name.size ≤ 9223372036854775807 ∧ (-9223372036854775808 ≤ x.val.num ∧ x.val.num ≤ 9223372036854775807)) ∧ (∀ v ∈ x.set, -9223372036854775808 ≤ v.num ∧ v.num ≤ 9223372036854775807) ∧ (0 < x.set.length → ∀ b, x.sv.ownBlock = some b → b < w.heap.size)
theorem Con.fine.old {w w' : World} {x : Con} (h : x.fine w) (hk : Old w w') : x.fine w' := ⟨h.1.old hk, h.2.1, h.2.2.1, fun h0 b hb => Nat.lt_of_lt_of_le (h.2.2.2 h0 b hb) hk.size⟩
theorem may_pred1_any (x : Con) (w : World) (h : x.fine w) : Calls Tryz.prog 24 #[.agg x.cells.toArray] w fun e w' => e = .returned (.bool (!conOk x)) ∧ Old w w' := by
 have M := fun W (hW : Old w W) => may_cons_any x W (h.1.old hW)
 obtain ⟨nm, op, ⟨k, n, s, b⟩, sv, set⟩ := x
 obtain ⟨p, c, hsv, _, _⟩ := h.1.len
 simp only at hsv
 subst hsv
 unfold Con.cells at M ⊢
 simp only at M ⊢
 have HM := Lib.hid (M _ ((Keeps.refl (fun _ => False) w).alloc (.cells #[.string nm, .int .i64 op, .int .i64 k, .int .i64 n, .string s, .bool b, .slice p set.length c] 78)))
 clear M h
 go_enter Tryz.func24, Tryz.ntmps24
 go_wp2_with fail
 refine HM.out.mono ?_
 rintro e w1 ⟨rfl, hk⟩
 have K := Lib.hid (((Keeps.refl _ w).alloc _).trans hk)
 clear hk
 go_wp2_with fail
 go_ret
 exact ⟨rfl, K.out⟩
theorem index_cons_any (v : Value) (l : List Con) (w : World) (h : SeesR w 7 Con.cells v l) (hf : ∀ x ∈ l, x.fine w)
  (hc : ∀ x, x.fine w → ∀ W, Old w W → Calls Tryz.prog 24 #[.agg x.cells.toArray] W fun e w' => e = .returned (.bool (!conOk x)) ∧ Old W w') :
  Calls Tryz.prog 61 #[v, .func (.func 24) #[] #[]] w fun e w' => (∃ i : Int, e = .returned (.int .i64 i) ∧ decide (0 ≤ i) = !(l.all conOk)) ∧ Old w w' := by
 by_cases hl : 0 < l.length
 ·obtain ⟨b, o, c, rfl, h1, h2, hcell⟩ := h.at hl
  have hm : l.length ≤ 9223372036854775807 := by unfold maxLen at h2; omega
  have HC := Lib.hid hcell
  have HF := Lib.hid hf
  have HK := Lib.hid hc
  clear h1 h2 h hcell hl hf hc
  go_enter Tryz.func61, Tryz.ntmps61
  go_wp2_with fail
  go_loopw [8] (fun v8 wr => ∃ k : Nat, k ≤ l.length ∧ v8 = .int .i64 k ∧ (l.take k).all conOk = true ∧ Old w wr) (fun v8 _ => l.length - (intOf v8).toNat)
  case atStart => exact ⟨0, by omega, rfl, by simp, Keeps.refl _ _⟩
  case round =>
   obtain ⟨k, hk, rfl, hr, hkw⟩ := hrel
   have HR := Lib.hid hr
   clear hr
   by_cases hlt : k < l.length
   ·have hx : l[k]? = some l[k] := List.getElem?_eq_getElem hlt
    generalize l[k] = x at hx
    have cell : ∀ i u, (Con.cells x)[i]? = some u → wr.cell? ⟨b, o + k * 7 + i, none⟩ = some u := fun i u hu => hkw.cell (HC.out k x hx i u hu) (fun f => f)
    have c0 := cell 0 _ rfl
    have c1 := cell 1 _ rfl
    have c2 := cell 2 _ rfl
    have c3 := cell 3 _ rfl
    have c4 := cell 4 _ rfl
    have c5 := cell 5 _ rfl
    have c6 := cell 6 _ rfl
    simp only [Nat.add_zero] at c0
    have N := HK.out x (HF.out x (List.mem_of_getElem? hx)) wr hkw
    have HX := Lib.hid (And.intro hx hkw)
    clear cell hx hkw
    cases hg : conOk x
    ·rw [hg] at N
     have HN := Lib.hid N
     have HG := Lib.hid hg
     clear N hg
     go_wp2_with fail
     refine HN.out.mono ?_
     rintro e w1 ⟨rfl, hk1⟩
     have K1 := Lib.hid (HX.out.2.trans hk1)
     clear hk1
     go_wp2_with fail
     go_ret
     exact ⟨⟨k, rfl, by rw [all_false_of HX.out.1 HG.out]; simp⟩, K1.out⟩
    ·rw [hg] at N
     have HN := Lib.hid N
     have HG := Lib.hid hg
     clear N hg
     go_wp2_with fail
     refine HN.out.mono ?_
     rintro e w1 ⟨rfl, hk1⟩
     have K1 := Lib.hid (HX.out.2.trans hk1)
     clear hk1
     go_wp2_with fail
     go_roundw
     case rel => exact ⟨k + 1, by omega, by go_num, by rw [all_take_succ HX.out.1, HR.out, HG.out]; rfl, K1.out⟩
     case measure => simp [intOf]; omega
   ·have K1 := Lib.hid hkw
    clear hkw
    go_wp2_with fail
    go_ret
    refine ⟨⟨-1, rfl, ?_⟩, K1.out⟩
    have := HR.out
    rw [List.take_of_length_le (by omega)] at this
    rw [this]
    rfl
 ·obtain ⟨rfl, p, c, rfl⟩ := h.at0 (by omega)
  clear h hl hf hc
  go_enter Tryz.func61, Tryz.ntmps61
  go_wp2_with fail
  go_loopw [8] (fun v8 wr => v8 = .int .i64 0 ∧ Old w wr) (fun _ _ => 0)
  case atStart => exact ⟨rfl, Keeps.refl _ _⟩
  case round =>
   obtain ⟨rfl, hkw⟩ := hrel
   have K1 := Lib.hid hkw
   clear hkw
   go_wp2_with fail
   go_ret
   exact ⟨⟨-1, rfl, rfl⟩, K1.out⟩
theorem contains_cons_any (v : Value) (l : List Con) (w : World) (h : SeesR w 7 Con.cells v l) (hf : ∀ x ∈ l, x.fine w)
  (hc : ∀ x, x.fine w → ∀ W, Old w W → Calls Tryz.prog 24 #[.agg x.cells.toArray] W fun e w' => e = .returned (.bool (!conOk x)) ∧ Old W w') :
  Calls Tryz.prog 23 #[v, .func (.func 24) #[] #[]] w fun e w' => e = .returned (.bool (!(l.all conOk))) ∧ Old w w' := by
 obtain ⟨p, c, rfl, h1, h2⟩ := h.len
 have C := Lib.hid (index_cons_any _ l w h hf hc)
 clear h h1 h2 hf hc
 go_enter Tryz.func23, Tryz.ntmps23
 go_wp2_with fail
 refine C.out.mono ?_
 rintro e w' ⟨⟨i, rfl, hi⟩, hk⟩
 have HI := Lib.hid (And.intro hi hk)
 clear hi hk
 go_wp2_with fail
 go_ret
 exact ⟨ret_bool HI.out.1, HI.out.2⟩
def predOk (l : List Con) : Bool := decide (l.length ≤ 6) && l.all conOk
def Cons (w : World) (v : Value) (l : List Con) : Prop := SeesR w 7 Con.cells v l ∧ ∀ x ∈ l, x.fine w
theorem Cons.old {w w' : World} {v : Value} {l : List Con} (h : Cons w v l) (hk : Old w w') : Cons w' v l := ⟨h.1.old hk, fun x hx => (h.2 x hx).old hk⟩
theorem pred_may_any (v : Value) (l : List Con) (w : World) (h : Cons w v l) : Calls Tryz.prog 9 #[v] w fun e w' => e = .returned (.bool (predOk l)) ∧ Old w w' := by
 obtain ⟨p, c, rfl, h1, h2⟩ := h.1.len
 have C := Lib.hid (contains_cons_any _ l w h.1 h.2 (fun x hx W hW => may_pred1_any x W (hx.old hW)))
 clear h
 by_cases hl : l.length ≤ 6
 ·have d : decide ((l.length : Int) ≤ 6) = true := by simp; omega
  have HL := Lib.hid hl
  clear hl
  go_enter Tryz.func9, Tryz.ntmps9
  go_wp2_with fail
  refine C.out.mono ?_
  rintro e w1 ⟨rfl, hk⟩
  have K := Lib.hid hk
  clear hk
  go_wp2_with fail
  go_ret
  exact ⟨ret_bool (by simp [predOk, HL.out]), K.out⟩
 ·have d : decide ((l.length : Int) ≤ 6) = false := by simp; omega
  have HL := Lib.hid hl
  clear hl
  go_enter Tryz.func9, Tryz.ntmps9
  go_wp2_with fail
  go_ret
  exact ⟨ret_bool (by simp [predOk, HL.out]), Keeps.refl _ _⟩
end
end Go.Proofs.YtehmlaplodjenaaGreat
