/- DERIVED. MsgMay, walked: the parts, the array of messages. -/
import Derived.Test.YtpjpimahnnekkaaGreatY41
import Derived.Test.YtpjpimahnnekkaaGreatY42
import Derived.Test.YtpjpimahnnekkaaGreatY27
import Derived.Test.YtpjpimahnnekkaaGreatZMsgMay01
import Derived.Deep.DeepCutAuto
namespace Go.Proofs.YtpjpimahnnekkaaGreat
open Go.RowKit Go.Great

attribute [-go_sem] loadVar storeVar
theorem run_load_cell {W : World} {a : Addr} {v : Value} (hc : W.cell? a = some v) : (load a).run Tryz.prog W = .ok v W := by
 show Sem.run Tryz.prog (.load .plain a .pure) W = _
 unfold Sem.run
 simp only [hc]
 rfl
set_option maxRecDepth 100000 in
theorem num21_any (n : Nat) (w : World) : Calls Tryz.prog 21 #[.int .u64 n] w fun e w' => e = .returned (.bool (numOk n)) ∧ w = w' := by
 unfold numOk
 by_cases a : 1 ≤ n
 ·have a1 : decide (1 ≤ n) = true := decide_eq_true a
  have a2 : decide ((1 : Int) ≤ (n : Int)) = true := by simp; omega
  have a3 : decide (0 < n) = true := by simp; omega
  by_cases b : n ≤ 1099511627776
  ·have b1 : decide (n ≤ 1099511627776) = true := decide_eq_true b
   have b2 : decide ((n : Int) ≤ 1099511627776) = true := by simp; omega
   go_enter Tryz.func21, Tryz.ntmps21
   go_wp2_with fail
   go_ret
   exact ⟨by first | rfl | simp [a, b], rfl⟩
  ·have b1 : decide (n ≤ 1099511627776) = false := decide_eq_false b
   have b2 : decide ((n : Int) ≤ 1099511627776) = false := by simp; omega
   go_enter Tryz.func21, Tryz.ntmps21
   go_wp2_with fail
   go_ret
   exact ⟨by first | rfl | simp [a, b], rfl⟩
 ·have a1 : decide (1 ≤ n) = false := decide_eq_false a
  have a2 : decide ((1 : Int) ≤ (n : Int)) = false := by simp; omega
  have a3 : decide (0 < n) = false := by simp; omega
  go_enter Tryz.func21, Tryz.ntmps21
  go_wp2_with fail
  go_ret
  exact ⟨by first | rfl | simp [a], rfl⟩

/-- the parts of a message that lies in a block of the document's type -/
structure Parts (w : World) (b : Nat) (m : Ms) : Prop where
 pub : (loadVar 3 ⟨b, 1, none⟩).run Tryz.prog w = .ok (.int .i64 m.pub) w
 ver : (loadVar 22 ⟨b, 2, none⟩).run Tryz.prog w = .ok (.int .u64 m.ver) w
 pred : (loadVar 24 ⟨b, 4, none⟩).run Tryz.prog w = .ok m.pv w
 item : (loadVar 29 ⟨b, 5, none⟩).run Tryz.prog w = .ok (.agg m.it.cells.toArray) w
 tok : (loadVar 31 ⟨b, 9, none⟩).run Tryz.prog w = .ok (.agg #[.int .i64 m.tb, .int .u64 m.tl, .int .u64 m.tc]) w
 tb : (loadVar 3 ⟨b, 9, none⟩).run Tryz.prog w = .ok (.int .i64 m.tb) w
 tl : (loadVar 22 ⟨b, 10, none⟩).run Tryz.prog w = .ok (.int .u64 m.tl) w
 tc : (loadVar 22 ⟨b, 11, none⟩).run Tryz.prog w = .ok (.int .u64 m.tc) w
 frm : (loadVar 22 ⟨b, 12, none⟩).run Tryz.prog w = .ok (.int .u64 m.frm) w
 page : (loadVar 35 ⟨b, 13, none⟩).run Tryz.prog w = .ok (.agg m.pg.cells.toArray) w
theorem parts_of {w : World} {b : Nat} {m : Ms} (h : RAt w b m) : Parts w b m := by
 have g := blkM h
 have q1 : ∀ a W, (loadVar 3 a).run Tryz.prog W = (load a).run Tryz.prog W := fun _ _ => by kernel_rfl
 have q2 : ∀ a W, (loadVar 22 a).run Tryz.prog W = (load a).run Tryz.prog W := fun _ _ => by kernel_rfl
 have q4 : ∀ a W, (loadVar 24 a).run Tryz.prog W = (load a).run Tryz.prog W := fun _ _ => by kernel_rfl
 refine ⟨?_, ?_, ?_, ?_, ?_, ?_, ?_, ?_, ?_, ?_⟩
 ·rw [q1]; exact run_load_cell g.2.1
 ·rw [q2]; exact run_load_cell g.2.2.1
 ·rw [q4]; exact run_load_cell g.2.2.2.2.1
 ·exact load_sub (cs := m.it.cells.toArray) (fun j v hv => by
   rcases j with _ | _ | _ | _ | _ | j <;> simp [It.cells] at hv
   all_goals (subst hv; first | exact g.2.2.2.2.2.1 | exact g.2.2.2.2.2.2.1 | exact g.2.2.2.2.2.2.2.1 | exact g.2.2.2.2.2.2.2.2.1)) Tryz.underlying29 rfl (by kernel_rfl)
 ·exact load_sub (fun j v hv => by
   rcases j with _ | _ | _ | _ | _ | j <;> simp at hv
   all_goals (subst hv; first | exact g.2.2.2.2.2.2.2.2.2.1 | exact g.2.2.2.2.2.2.2.2.2.2.1 | exact g.2.2.2.2.2.2.2.2.2.2.2.1)) Tryz.underlying31 rfl (by kernel_rfl)
 ·rw [q1]; exact run_load_cell g.2.2.2.2.2.2.2.2.2.1
 ·rw [q2]; exact run_load_cell g.2.2.2.2.2.2.2.2.2.2.1
 ·rw [q2]; exact run_load_cell g.2.2.2.2.2.2.2.2.2.2.2.1
 ·rw [q2]; exact run_load_cell g.2.2.2.2.2.2.2.2.2.2.2.2.1
 ·exact load_sub (cs := m.pg.cells.toArray) (fun j v hv => by
   rcases j with _ | _ | _ | _ | _ | j <;> simp [Pg.cells] at hv
   all_goals (subst hv; first | exact g.2.2.2.2.2.2.2.2.2.2.2.2.2.1 | exact g.2.2.2.2.2.2.2.2.2.2.2.2.2.2.1 | exact g.2.2.2.2.2.2.2.2.2.2.2.2.2.2.2.1 | exact g.2.2.2.2.2.2.2.2.2.2.2.2.2.2.2.2.1 | exact g.2.2.2.2.2.2.2.2.2.2.2.2.2.2.2.2.2)) Tryz.underlying35 rfl (by kernel_rfl)
theorem run_load_any {W : World} {ty : TypeId} {a : Addr} {v : Value} (h : (loadVar ty a).run Tryz.prog W = .ok v W) {ρ : Operand → Value} {o : Oper} {x : Operand} (ho : o.op = .load ty x) (hx : ρ x = .pointer (some a)) : (execOp ρ o).run Tryz.prog W = .ok (.value v) W := by
 unfold execOp
 rw [ho]
 simp only [hx, Instr.loadAt, Instr.sureAddr, Sem.run_bind, Sem.run_pure, Result.andThen_ok, h]
theorem run_store_any {W W' : World} {ty : TypeId} {a : Addr} {v : Value} (h : (storeVar ty a v).run Tryz.prog W = .ok () W') {ρ : Operand → Value} {o : Oper} {x y : Operand} (ho : o.op = .store ty x y) (hx : ρ x = .pointer (some a)) (hy : ρ y = v) : (execOp ρ o).run Tryz.prog W = .ok .skip W' := by
 unfold execOp
 rw [ho]
 simp only [hx, hy, Instr.storeAt, Instr.sureAddr, Sem.run_bind, Sem.run_pure, Result.andThen_ok, h]
/-- the six messages, laid side by side -/
def six6 (m : Ms) : List Value := ((List.range 6).map (RR m)).flatMap Ms.cells
def zero6 : List Value := (List.replicate 6 zeroMs).flatMap Ms.cells
theorem six6_one {m : Ms} {w : World} (h : m.fine w) : (six6 m).toArray.all (·.oneCell') = true := by
 rw [List.all_toArray, List.all_eq_true]
 intro v hv
 obtain ⟨x, hx, hv⟩ := List.mem_flatMap.1 hv
 obtain ⟨i, hi, rfl⟩ := List.mem_map.1 hx
 have h1 := (RR_fine h (List.mem_range.1 hi)).one
 rw [List.all_toArray, List.all_eq_true] at h1
 exact h1 v hv
theorem six6_at {m : Ms} {i j : Nat} (hi : i < 6) (hj : j < 18) : (six6 m)[i * 18 + j]? = (RR m i).cells[j]? :=
 flat_at (enc := Ms.cells) (k := 18) (fun x => by simp [Ms.cells]) _ i (RR m i) (by simp [hi]) j hj
theorem load_six {m : Ms} {w : World} {b i : Nat} {t : TypeId} (h : w.heap[b]? = some (.cells (six6 m).toArray t (0, 0))) (hi : i < 6) : (loadVar 44 ⟨b, i * 18, none⟩).run Tryz.prog w = .ok (.agg (RR m i).cells.toArray) w :=
 load_sub (cs := (RR m i).cells.toArray) (fun j v hv => by
  have hv' : (RR m i).cells[j]? = some v := by simpa using hv
  have hj : j < 18 := by have := (List.getElem?_eq_some_iff.1 hv').1; simpa [Ms.cells] using this
  rw [← six6_at hi hj] at hv'
  simp [World.cell?, h, hv']) Tryz.underlying44 rfl (by simp only [Ms.cells, List.size_toArray]; kernel_rfl)

theorem store_last {w : World} {mb : Nat} {m : Ms} (h : MAt w mb m) (n : Bool) : ∃ w', (storeVar 4 ⟨mb, 17, none⟩ (.bool n)).run Tryz.prog w = .ok () w' ∧ MAt w' mb { m with pg := { m.pg with last := n } } ∧ Keeps (fun k => k = mb) w w' :=
 store_cell h _ rfl (by simp [Ms.cells]) (by kernel_rfl) (by simp [Value.oneCell']) (by simp [Ms.cells])
theorem store_time {w : World} {mb : Nat} {m : Ms} (h : MAt w mb m) (n : Nat) : ∃ w', (storeVar 22 ⟨mb, 6, none⟩ (.int .u64 n)).run Tryz.prog w = .ok () w' ∧ MAt w' mb { m with it := { m.it with time := n } } ∧ Keeps (fun k => k = mb) w w' :=
 store_cell h _ rfl (by simp [Ms.cells]) (by kernel_rfl) (by simp [Value.oneCell']) (by simp [Ms.cells])
/-- a message whose predicate is seen to be a slice -/
abbrev lit (m : Ms) (p : Option Addr) (c : Nat) : Ms := { m with pv := .slice p m.ps.length c }

set_option maxRecDepth 100000 in
set_option maxHeartbeats 8000000 in
theorem mmay_lit (m : Ms) (p : Option Addr) (c : Nat) (w : World) (h : (lit m p c).fine w) : Calls Tryz.prog 6 #[.agg (lit m p c).cells.toArray] w fun e w' => e = .returned (.bool true) ∧ Old w w' := by
 have RF := Lib.hid (fun W (o : Old w W) i (hi : i < 6) => RR_fine (h.old o) hi)
 have MF := Lib.hid (fun W (o : Old w W) => h.old o)
 have HE := Lib.hid (fun i (hi : i < 6) => mays_eq (lit m p c) hi)
 have ONE := Lib.hid (six6_one h)
 obtain ⟨W0, hW0⟩ : ∃ W0, w.alloc (.cells (lit m p c).cells.toArray 37) = W0 := ⟨_, rfl⟩
 have k0 : Old w W0 := by rw [← hW0]; exact (Keeps.refl _ _).alloc _
 have b0 : RAt W0 w.heap.size (lit m p c) := by rw [← hW0]; exact heap_alloc_new _ _
 have P0 := parts_of b0
 have B := Lib.hid (And.intro k0 b0)
 have hp64 : I64 m.pub := h.2.2.2.1.2.1
 have CH := Lib.hid (fun W => home_any m.pub W hp64)
 have q1 : (loadVar 3 ⟨w.heap.size, 1, none⟩).run Tryz.prog W0 = .ok (.int .i64 m.pub) W0 := P0.pub
 have q6 : (loadVar 3 ⟨w.heap.size, 9, none⟩).run Tryz.prog W0 = .ok (.int .i64 m.tb) W0 := P0.tb
 have q7 : (loadVar 22 ⟨w.heap.size, 10, none⟩).run Tryz.prog W0 = .ok (.int .u64 m.tl) W0 := P0.tl
 have q8 : (loadVar 22 ⟨w.heap.size, 11, none⟩).run Tryz.prog W0 = .ok (.int .u64 m.tc) W0 := P0.tc
 obtain ⟨zh, hzh⟩ : ∃ zh, decide (0 ≤ homeZ m.pub) = zh := ⟨_, rfl⟩
 have HZ := Lib.hid hzh
 have C1 := fun W => num21_any m.tl W
 have C2 := fun W => num21_any m.tc W
 obtain ⟨z1, t1⟩ : ∃ z, decide (0 ≤ m.tb) = z := ⟨_, rfl⟩
 obtain ⟨z2, t2⟩ : ∃ z, decide (m.tb < 64) = z := ⟨_, rfl⟩
 obtain ⟨z3, t3⟩ : ∃ z, numOk m.tl = z := ⟨_, rfl⟩
 obtain ⟨z4, t4⟩ : ∃ z, numOk m.tc = z := ⟨_, rfl⟩
 have HA := Lib.hid (show asksM m = (z1 && (z2 && (z3 && z4))) by unfold asksM; rw [t1, t2, t3, t4])
 rw [t3] at C1
 rw [t4] at C2
 have HC := Lib.hid (And.intro C1 C2)
 clear k0 b0 hp64 P0 C1 C2 t3 t4 h
 go_enter Tryz.func6, Tryz.ntmps6
 go_wp2_with fail
 refine (CH.out _).mono ?_
 rintro e w1 ⟨rfl, rfl⟩
 go_upto_region 3 with fail
 go_cut [5] (fun v wc => v = .bool (asksM m) ∧ W0 = wc)
 case first =>
  as_aux_lemma =>
   cases z1
   ·go_wp2_with fail
    go_meet
    case rel => exact ⟨by rw [HA.out]; rfl, rfl⟩
   cases z2
   ·go_wp2_with fail
    go_meet
    case rel => exact ⟨by rw [HA.out]; rfl, rfl⟩
   go_wp2_with fail
   refine (HC.out.1 _).mono ?_
   rintro e w1 ⟨rfl, rfl⟩
   cases z3
   ·go_wp2_with fail
    go_meet
    case rel => exact ⟨by rw [HA.out]; rfl, rfl⟩
   go_wp2_with fail
   refine (HC.out.2 _).mono ?_
   rintro e w1 ⟨rfl, rfl⟩
   go_wp2_with fail
   go_meet
   case rel => exact ⟨by rw [HA.out]; rfl, rfl⟩
 obtain ⟨rfl, rfl⟩ := hcut
 clear t1 t2 HA HC q1 q6 q7 q8 CH hzh
 have P0 := Lib.hid (parts_of B.out.2)
 go_upto_region 4 with fail
 go_cut [6] (fun v wc => v = .pointer (some ⟨W0.heap.size, 0, none⟩) ∧ Old W0 wc ∧ wc.heap[W0.heap.size]? = some (.cells (six6 (lit m p c)).toArray 63 (0, 0)))
 case first =>
   refine wp_region_lit ?_
   refine wpList_runTo rfl (some 40) rfl (.pointer (some ⟨w.heap.size, 1, none⟩)) W0 (by as_aux_lemma => kernel_rfl) ?_
   refine wpList_runTo rfl (some 41) rfl (.int .i64 m.pub) W0 (run_load_any (x := .tmp 40) P0.out.pub rfl (by as_aux_lemma => kernel_rfl)) ?_
   refine wpList_runTo rfl (some 42) rfl (.pointer (some ⟨w.heap.size, 2, none⟩)) W0 (by as_aux_lemma => kernel_rfl) ?_
   refine wpList_runTo rfl (some 43) rfl (.int .u64 m.ver) W0 (run_load_any (x := .tmp 42) P0.out.ver rfl (by as_aux_lemma => kernel_rfl)) ?_
   refine wpList_runTo rfl (some 44) rfl (.pointer (some ⟨w.heap.size, 4, none⟩)) W0 (by as_aux_lemma => kernel_rfl) ?_
   refine wpList_runTo rfl (some 45) rfl (.slice p m.ps.length c) W0 (run_load_any (x := .tmp 44) P0.out.pred rfl (by as_aux_lemma => kernel_rfl)) ?_
   refine wpList_runTo rfl (some 46) rfl (.agg (r0 (lit m p c)).cells.toArray) W0 (by as_aux_lemma => kernel_rfl) ?_
   refine wpList_runTo rfl (some 47) rfl (.pointer (some ⟨w.heap.size, 4, none⟩)) W0 (by as_aux_lemma => kernel_rfl) ?_
   refine wpList_runTo rfl (some 48) rfl (.slice p m.ps.length c) W0 (run_load_any (x := .tmp 47) P0.out.pred rfl (by as_aux_lemma => kernel_rfl)) ?_
   refine wpList_runTo rfl (some 49) rfl (.agg (r1 (lit m p c)).cells.toArray) W0 (by as_aux_lemma => kernel_rfl) ?_
   refine wpList_runTo rfl (some 50) rfl (.pointer (some ⟨w.heap.size, 4, none⟩)) W0 (by as_aux_lemma => kernel_rfl) ?_
   refine wpList_runTo rfl (some 51) rfl (.slice p m.ps.length c) W0 (run_load_any (x := .tmp 50) P0.out.pred rfl (by as_aux_lemma => kernel_rfl)) ?_
   refine wpList_runTo rfl (some 52) rfl (.agg (r2 (lit m p c)).cells.toArray) W0 (by as_aux_lemma => kernel_rfl) ?_
   refine wpList_runTo rfl (some 53) rfl (.pointer (some ⟨w.heap.size, 1, none⟩)) W0 (by as_aux_lemma => kernel_rfl) ?_
   refine wpList_runTo rfl (some 54) rfl (.int .i64 m.pub) W0 (run_load_any (x := .tmp 53) P0.out.pub rfl (by as_aux_lemma => kernel_rfl)) ?_
   refine wpList_runTo rfl (some 55) rfl (.pointer (some ⟨w.heap.size, 5, none⟩)) W0 (by as_aux_lemma => kernel_rfl) ?_
   refine wpList_runTo rfl (some 56) rfl (.agg m.it.cells.toArray) W0 (run_load_any (x := .tmp 55) P0.out.item rfl (by as_aux_lemma => kernel_rfl)) ?_
   refine wpList_runTo rfl (some 57) rfl (.agg (r3 (lit m p c)).cells.toArray) W0 (by as_aux_lemma => kernel_rfl) ?_
   refine wpList_runTo rfl (some 58) rfl (.pointer (some ⟨w.heap.size, 9, none⟩)) W0 (by as_aux_lemma => kernel_rfl) ?_
   refine wpList_runTo rfl (some 59) rfl (.agg #[.int .i64 m.tb, .int .u64 m.tl, .int .u64 m.tc]) W0 (run_load_any (x := .tmp 58) P0.out.tok rfl (by as_aux_lemma => kernel_rfl)) ?_
   refine wpList_runTo rfl (some 60) rfl (.pointer (some ⟨w.heap.size, 1, none⟩)) W0 (by as_aux_lemma => kernel_rfl) ?_
   refine wpList_runTo rfl (some 61) rfl (.int .i64 m.pub) W0 (run_load_any (x := .tmp 60) P0.out.pub rfl (by as_aux_lemma => kernel_rfl)) ?_
   refine wpList_runTo rfl (some 62) rfl (.pointer (some ⟨w.heap.size, 4, none⟩)) W0 (by as_aux_lemma => kernel_rfl) ?_
   refine wpList_runTo rfl (some 63) rfl (.slice p m.ps.length c) W0 (run_load_any (x := .tmp 62) P0.out.pred rfl (by as_aux_lemma => kernel_rfl)) ?_
   refine wpList_runTo rfl (some 64) rfl (.pointer (some ⟨w.heap.size, 12, none⟩)) W0 (by as_aux_lemma => kernel_rfl) ?_
   refine wpList_runTo rfl (some 65) rfl (.int .u64 m.frm) W0 (run_load_any (x := .tmp 64) P0.out.frm rfl (by as_aux_lemma => kernel_rfl)) ?_
   refine wpList_runTo rfl (some 66) rfl (.agg (r4 (lit m p c)).cells.toArray) W0 (by as_aux_lemma => kernel_rfl) ?_
   refine wpList_runTo rfl (some 67) rfl (.pointer (some ⟨w.heap.size, 9, none⟩)) W0 (by as_aux_lemma => kernel_rfl) ?_
   refine wpList_runTo rfl (some 68) rfl (.agg #[.int .i64 m.tb, .int .u64 m.tl, .int .u64 m.tc]) W0 (run_load_any (x := .tmp 67) P0.out.tok rfl (by as_aux_lemma => kernel_rfl)) ?_
   refine wpList_runTo rfl (some 69) rfl (.pointer (some ⟨w.heap.size, 1, none⟩)) W0 (by as_aux_lemma => kernel_rfl) ?_
   refine wpList_runTo rfl (some 70) rfl (.int .i64 m.pub) W0 (run_load_any (x := .tmp 69) P0.out.pub rfl (by as_aux_lemma => kernel_rfl)) ?_
   refine wpList_runTo rfl (some 71) rfl (.pointer (some ⟨w.heap.size, 13, none⟩)) W0 (by as_aux_lemma => kernel_rfl) ?_
   refine wpList_runTo rfl (some 72) rfl (.agg m.pg.cells.toArray) W0 (run_load_any (x := .tmp 71) P0.out.page rfl (by as_aux_lemma => kernel_rfl)) ?_
   refine wpList_runTo rfl (some 73) rfl (.agg (r5 (lit m p c)).cells.toArray) W0 (by as_aux_lemma => kernel_rfl) ?_
   refine wpList_runTo rfl (some 74) rfl (.agg (six6 (lit m p c)).toArray) W0 (by as_aux_lemma => kernel_rfl) ?_
   refine wpList_runTo rfl (some 6) rfl (.pointer (some ⟨W0.heap.size, 0, none⟩)) (W0.alloc (.cells zero6.toArray 63)) (by as_aux_lemma => kernel_rfl) ?_
   obtain ⟨Wa, hWa⟩ : ∃ W, W0.alloc (.cells zero6.toArray 63) = W := ⟨_, rfl⟩
   have ba : Wa.heap[W0.heap.size]? = some (.cells zero6.toArray 63 (0, 0)) := by rw [← hWa]; exact heap_alloc_new _ _
   have oa : Old W0 Wa := by rw [← hWa]; exact (Keeps.refl _ _).alloc _
   rw [hWa]
   obtain ⟨Wb, hst, bb, kb⟩ := store_cells ba (ty := 63) (six6 (lit m p c)).toArray (Nat.le_of_eq (by kernel_rfl)) (by kernel_rfl) ONE.out (putRange_whole (by kernel_rfl))
   refine wpList_skipTo rfl Wb (run_store_any (x := .tmp 6) (y := .tmp 74) hst rfl (by kernel_rfl) (by kernel_rfl)) ?_
   refine wpList_nil ?_
   try simp only [Act.put, List.setIfInBounds_toArray, List.set_cons_zero, List.set_cons_succ]
   go_wp2_with fail
   go_meet
   case rel => exact ⟨rfl, oa.then kb (fun i hi e => by omega), bb⟩
 obtain ⟨rfl, o4, b4⟩ := hcut
 have K4 := Lib.hid (And.intro o4 b4)
 clear o4 b4 ONE
 -- REGION 5
 go_upto_region 5 with fail
 obtain ⟨za, hza⟩ : ∃ z, asksM m = z := ⟨_, rfl⟩
 obtain ⟨zn, hzn⟩ : ∃ z, numOk m.ver = z := ⟨_, rfl⟩
 obtain ⟨zp, hzp⟩ : ∃ z, okP (m.ps.map Con.plain) = z := ⟨_, rfl⟩
 obtain ⟨zi, hzi⟩ : ∃ z, itOk m.it.plain = z := ⟨_, rfl⟩
 obtain ⟨zg, hzg⟩ : ∃ z, pgOk m.pg.plain = z := ⟨_, rfl⟩
 obtain ⟨f1, hf1⟩ : ∃ z, decide (1 ≤ m.frm) = z := ⟨_, rfl⟩
 obtain ⟨f2, hf2⟩ : ∃ z, decide (m.frm ≤ 1099511627777) = z := ⟨_, rfl⟩
 obtain ⟨y1, hy1⟩ : ∃ z, (zh && zn) = z := ⟨_, rfl⟩
 obtain ⟨y2, hy2⟩ : ∃ z, (y1 && zp) = z := ⟨_, rfl⟩
 obtain ⟨y3, hy3⟩ : ∃ z, (zh && zi) = z := ⟨_, rfl⟩
 obtain ⟨y4, hy4⟩ : ∃ z, (zh && za) = z := ⟨_, rfl⟩
 obtain ⟨y5, hy5⟩ : ∃ z, (y4 && zp) = z := ⟨_, rfl⟩
 obtain ⟨y6, hy6⟩ : ∃ z, (y5 && f1) = z := ⟨_, rfl⟩
 obtain ⟨y7, hy7⟩ : ∃ z, (y6 && f2) = z := ⟨_, rfl⟩
 obtain ⟨y8, hy8⟩ : ∃ z, (y4 && zg) = z := ⟨_, rfl⟩
 have MB := Lib.hid (show mays (lit m p c) 0 = y2 ∧ mays (lit m p c) 1 = zp ∧ mays (lit m p c) 2 = zp ∧ mays (lit m p c) 3 = y3 ∧ mays (lit m p c) 4 = y7 ∧ mays (lit m p c) 5 = y8 by
  have e0 : mays (lit m p c) 0 = (decide (0 ≤ homeZ m.pub) && (numOk m.ver && okP (m.ps.map Con.plain))) := rfl
  have e1 : mays (lit m p c) 1 = okP (m.ps.map Con.plain) := rfl
  have e2 : mays (lit m p c) 2 = okP (m.ps.map Con.plain) := rfl
  have e3 : mays (lit m p c) 3 = (decide (0 ≤ homeZ m.pub) && itOk m.it.plain) := rfl
  have e4 : mays (lit m p c) 4 = (decide (0 ≤ homeZ m.pub) && (asksM m && (okP (m.ps.map Con.plain) && (decide (1 ≤ m.frm) && decide (m.frm ≤ 1099511627777))))) := rfl
  have e5 : mays (lit m p c) 5 = (decide (0 ≤ homeZ m.pub) && (asksM m && pgOk m.pg.plain)) := rfl
  rw [e0, e1, e2, e3, e4, e5, HZ.out, hza, hzn, hzp, hzi, hzg, hf1, hf2, ← hy2, ← hy1, ← hy3, ← hy7, ← hy6, ← hy5, ← hy8, ← hy4]
  simp only [Bool.and_assoc, and_self])
 have F1 := Lib.hid (fun (w : World) (r : Result Next) (hr : r = .ok (.value (.bool (decide ((1 : Int) ≤ (m.frm : Int))))) w) => (by rw [hr, ← hf1]; congr 3; simp; omega : r = .ok (.value (.bool f1)) w))
 have F2 := Lib.hid (fun (w : World) (r : Result Next) (hr : r = .ok (.value (.bool (decide ((m.frm : Int) ≤ 1099511627777)))) w) => (by rw [hr, ← hf2]; congr 3; simp; omega : r = .ok (.value (.bool f2)) w))
 rw [hza]
 go_cut [7] (fun v7 wx => ∃ mb, v7 = .pointer (some ⟨mb, 0, none⟩) ∧ Old wc wx ∧ wx.heap[mb]? = some (.cells #[.bool y2, .bool zp, .bool zp, .bool y3, .bool y7, .bool y8] 67 (0, 0)))
 case first =>
   have PX := Lib.hid (fun W (o : Old wc W) => parts_of (((K4.out.1.trans o).block _ (lt_of_heap B.out.2) (fun f => f)).trans B.out.2))
   have kw : Old w wc := B.out.1.trans K4.out.1
   have CN := fun W (_ : Old wc W) => (num21_any m.ver W).mono (fun e w' he => (⟨he.1, he.2 ▸ Keeps.refl _ _⟩ : e = .returned (.bool (numOk m.ver)) ∧ Old W w'))
   have CP := fun W (o : Old wc W) => pred_may_any (.slice p m.ps.length c) m.ps W (MF.out W (kw.trans o)).1.1
   have CI := fun W (o : Old wc W) => may_item_any m.it W (MF.out W (kw.trans o)).2.1
   have CG := fun W (o : Old wc W) => may_page_any m.pg W (MF.out W (kw.trans o)).2.2.1
   rw [hzn] at CN
   rw [hzi] at CI
   rw [hzg] at CG
   have CP' : ∀ W, Old wc W → Calls Tryz.prog 22 #[.slice p m.ps.length c] W fun e w' => e = .returned (.bool zp) ∧ Old W w' := by rw [← hzp, ← predOk_plain]; exact CP
   have CN := Lib.hid CN
   have CI := Lib.hid CI
   have CG := Lib.hid CG
   have CP := Lib.hid CP'
   clear CP' hzn hzi hzg hzp hza hf1 hf2
   refine wp_region_r (n := 54) (S := fun W => Old wc W) (R := fun a b => Old a b) (B := fun b W => Old wc W ∧ W.heap[b]? = some (.cells #[.bool false, .bool false, .bool false, .bool false, .bool false, .bool false] 67 (0, 0)) ∧ wc.heap.size ≤ b) (Q := fun a => ∀ b w, (Old wc w ∧ w.heap[b]? = some (.cells #[.bool false, .bool false, .bool false, .bool false, .bool false, .bool false] 67 (0, 0)) ∧ wc.heap.size ≤ b) → wpOp Tryz.prog _ _ 54 _ (a.put (some 7) (.pointer (some ⟨b, 0, none⟩))) w) 53 54 (by kernel_rfl) (by kernel_rfl) rfl rfl (by kernel_rfl) (by kernel_rfl) (by kernel_rfl) (by kernel_rfl) (by kernel_rfl) (fun b w hB => hB.1) (fun b w w' hB hr => ⟨hB.1.trans hr, (hr.block _ (lt_of_heap hB.2.1) (fun f => f)).trans hB.2.1, hB.2.2⟩) (fun w w' hS hr => hS.trans hr) (fun w => Keeps.refl _ w) (fun a w K hS hK => wpOp_value rfl rfl (v := .pointer (some ⟨w.heap.size, 0, none⟩)) (w' := w.alloc (.cells #[.bool false, .bool false, .bool false, .bool false, .bool false, .bool false] 67)) (by kernel_rfl) (hK _ _ ⟨hS.alloc _, heap_alloc_new _ _, hS.size⟩)) (fun a b w hB hQ => hQ b w hB) (Keeps.refl _ _).drew ?_
   intro hNS hSW
   refine wpAnyR_take (i := 0) (oi := _) (v := .bool zh) rfl hNS hSW rfl (by as_aux_lemma => kernel_rfl) (by as_aux_lemma => kernel_rfl) (YR.value (by as_aux_lemma => kernel_rfl) (fun w _ => by as_aux_lemma => kernel_rfl)) ?_
   refine wpAnyR_take (i := 1) (oi := _) (v := .bool zh) rfl hNS hSW rfl (by as_aux_lemma => kernel_rfl) (by as_aux_lemma => kernel_rfl) (YR.value (by as_aux_lemma => kernel_rfl) (fun w _ => by as_aux_lemma => kernel_rfl)) ?_
   refine wpAnyR_take (i := 2) (oi := _) (v := gv zh (.func (.func 21) #[] #[])) rfl hNS hSW rfl (by as_aux_lemma => kernel_rfl) (by as_aux_lemma => kernel_rfl) (YR.ite zh (fun hz => by subst hz; exact YR.value (by as_aux_lemma => kernel_rfl) (fun w _ => by as_aux_lemma => kernel_rfl)) (fun hz => by subst hz; kernel_rfl)) ?_
   refine wpAnyR_take (i := 3) (oi := _) (v := gv zh (.pointer (some ⟨w.heap.size, 2, none⟩))) rfl hNS hSW rfl (by as_aux_lemma => kernel_rfl) (by as_aux_lemma => kernel_rfl) (YR.ite zh (fun hz => by subst hz; exact YR.value (by as_aux_lemma => kernel_rfl) (fun w _ => by as_aux_lemma => kernel_rfl)) (fun hz => by subst hz; kernel_rfl)) ?_
   refine wpAnyR_take (i := 4) (oi := _) (v := gv zh (.int .u64 m.ver)) rfl hNS hSW rfl (by as_aux_lemma => kernel_rfl) (by as_aux_lemma => kernel_rfl) (YR.ite zh (fun hz => by subst hz; exact YR.value (by as_aux_lemma => kernel_rfl) (fun w hS => run_load_any (x := .tmp 78) (PX.out w hS).ver rfl (by as_aux_lemma => kernel_rfl))) (fun hz => by subst hz; kernel_rfl)) ?_
   refine wpAnyR_take (i := 5) (oi := _) (v := gv zh (.bool zn)) rfl hNS hSW rfl (by as_aux_lemma => kernel_rfl) (by as_aux_lemma => kernel_rfl) (YR.ite zh (fun hz => by subst hz; exact YR.call (by as_aux_lemma => kernel_rfl) (fun w _ => by as_aux_lemma => kernel_rfl) (fun w hS => CN.out w hS)) (fun hz => by subst hz; kernel_rfl)) ?_
   refine wpAnyR_take (i := 6) (oi := _) (v := .bool y1) rfl hNS hSW rfl (by as_aux_lemma => kernel_rfl) (by as_aux_lemma => kernel_rfl) (YR.value (by as_aux_lemma => kernel_rfl) (fun w _ => by subst hy1; cases zh <;> kernel_rfl)) ?_
   refine wpAnyR_take (i := 7) (oi := _) (v := .bool y1) rfl hNS hSW rfl (by as_aux_lemma => kernel_rfl) (by as_aux_lemma => kernel_rfl) (YR.value (by as_aux_lemma => kernel_rfl) (fun w _ => by as_aux_lemma => kernel_rfl)) ?_
   refine wpAnyR_take (i := 8) (oi := _) (v := gv y1 (.pointer (some ⟨w.heap.size, 4, none⟩))) rfl hNS hSW rfl (by as_aux_lemma => kernel_rfl) (by as_aux_lemma => kernel_rfl) (YR.ite y1 (fun hz => by subst hz; exact YR.value (by as_aux_lemma => kernel_rfl) (fun w _ => by as_aux_lemma => kernel_rfl)) (fun hz => by subst hz; kernel_rfl)) ?_
   refine wpAnyR_take (i := 9) (oi := _) (v := gv y1 (.slice p m.ps.length c)) rfl hNS hSW rfl (by as_aux_lemma => kernel_rfl) (by as_aux_lemma => kernel_rfl) (YR.ite y1 (fun hz => by subst hz; exact YR.value (by as_aux_lemma => kernel_rfl) (fun w hS => run_load_any (x := .tmp 83) (PX.out w hS).pred rfl (by as_aux_lemma => kernel_rfl))) (fun hz => by subst hz; kernel_rfl)) ?_
   refine wpAnyR_take (i := 10) (oi := _) (v := gv y1 (.bool zp)) rfl hNS hSW rfl (by as_aux_lemma => kernel_rfl) (by as_aux_lemma => kernel_rfl) (YR.ite y1 (fun hz => by subst hz; exact YR.call (by as_aux_lemma => kernel_rfl) (fun w _ => by as_aux_lemma => kernel_rfl) (fun w hS => CP.out w hS)) (fun hz => by subst hz; kernel_rfl)) ?_
   refine wpAnyR_take (i := 11) (oi := _) (v := .bool y2) rfl hNS hSW rfl (by as_aux_lemma => kernel_rfl) (by as_aux_lemma => kernel_rfl) (YR.value (by as_aux_lemma => kernel_rfl) (fun w _ => by subst hy2; cases y1 <;> kernel_rfl)) ?_
   refine wpAnyR_take (i := 12) (oi := _) (v := .pointer (some ⟨w.heap.size, 4, none⟩)) rfl hNS hSW rfl (by as_aux_lemma => kernel_rfl) (by as_aux_lemma => kernel_rfl) (YR.value (by as_aux_lemma => kernel_rfl) (fun w _ => by as_aux_lemma => kernel_rfl)) ?_
   refine wpAnyR_take (i := 13) (oi := _) (v := .slice p m.ps.length c) rfl hNS hSW rfl (by as_aux_lemma => kernel_rfl) (by as_aux_lemma => kernel_rfl) (YR.value (by as_aux_lemma => kernel_rfl) (fun w hS => run_load_any (x := .tmp 87) (PX.out w hS).pred rfl (by as_aux_lemma => kernel_rfl))) ?_
   refine wpAnyR_take (i := 14) (oi := _) (v := .bool zp) rfl hNS hSW rfl (by as_aux_lemma => kernel_rfl) (by as_aux_lemma => kernel_rfl) (YR.call (by as_aux_lemma => kernel_rfl) (fun w _ => by as_aux_lemma => kernel_rfl) (fun w hS => CP.out w hS)) ?_
   refine wpAnyR_take (i := 15) (oi := _) (v := .pointer (some ⟨w.heap.size, 4, none⟩)) rfl hNS hSW rfl (by as_aux_lemma => kernel_rfl) (by as_aux_lemma => kernel_rfl) (YR.value (by as_aux_lemma => kernel_rfl) (fun w _ => by as_aux_lemma => kernel_rfl)) ?_
   refine wpAnyR_take (i := 16) (oi := _) (v := .slice p m.ps.length c) rfl hNS hSW rfl (by as_aux_lemma => kernel_rfl) (by as_aux_lemma => kernel_rfl) (YR.value (by as_aux_lemma => kernel_rfl) (fun w hS => run_load_any (x := .tmp 90) (PX.out w hS).pred rfl (by as_aux_lemma => kernel_rfl))) ?_
   refine wpAnyR_take (i := 17) (oi := _) (v := .bool zp) rfl hNS hSW rfl (by as_aux_lemma => kernel_rfl) (by as_aux_lemma => kernel_rfl) (YR.call (by as_aux_lemma => kernel_rfl) (fun w _ => by as_aux_lemma => kernel_rfl) (fun w hS => CP.out w hS)) ?_
   refine wpAnyR_take (i := 18) (oi := _) (v := .bool zh) rfl hNS hSW rfl (by as_aux_lemma => kernel_rfl) (by as_aux_lemma => kernel_rfl) (YR.value (by as_aux_lemma => kernel_rfl) (fun w _ => by as_aux_lemma => kernel_rfl)) ?_
   refine wpAnyR_take (i := 19) (oi := _) (v := .bool zh) rfl hNS hSW rfl (by as_aux_lemma => kernel_rfl) (by as_aux_lemma => kernel_rfl) (YR.value (by as_aux_lemma => kernel_rfl) (fun w _ => by as_aux_lemma => kernel_rfl)) ?_
   refine wpAnyR_take (i := 20) (oi := _) (v := gv zh (.pointer (some ⟨w.heap.size, 5, none⟩))) rfl hNS hSW rfl (by as_aux_lemma => kernel_rfl) (by as_aux_lemma => kernel_rfl) (YR.ite zh (fun hz => by subst hz; exact YR.value (by as_aux_lemma => kernel_rfl) (fun w _ => by as_aux_lemma => kernel_rfl)) (fun hz => by subst hz; kernel_rfl)) ?_
   refine wpAnyR_take (i := 21) (oi := _) (v := gv zh (.agg m.it.cells.toArray)) rfl hNS hSW rfl (by as_aux_lemma => kernel_rfl) (by as_aux_lemma => kernel_rfl) (YR.ite zh (fun hz => by subst hz; exact YR.value (by as_aux_lemma => kernel_rfl) (fun w hS => run_load_any (x := .tmp 95) (PX.out w hS).item rfl (by as_aux_lemma => kernel_rfl))) (fun hz => by subst hz; kernel_rfl)) ?_
   refine wpAnyR_take (i := 22) (oi := _) (v := gv zh (.bool zi)) rfl hNS hSW rfl (by as_aux_lemma => kernel_rfl) (by as_aux_lemma => kernel_rfl) (YR.ite zh (fun hz => by subst hz; exact YR.call (by as_aux_lemma => kernel_rfl) (fun w _ => by as_aux_lemma => kernel_rfl) (fun w hS => CI.out w hS)) (fun hz => by subst hz; kernel_rfl)) ?_
   refine wpAnyR_take (i := 23) (oi := _) (v := .bool y3) rfl hNS hSW rfl (by as_aux_lemma => kernel_rfl) (by as_aux_lemma => kernel_rfl) (YR.value (by as_aux_lemma => kernel_rfl) (fun w _ => by subst hy3; cases zh <;> kernel_rfl)) ?_
   refine wpAnyR_take (i := 24) (oi := _) (v := .bool zh) rfl hNS hSW rfl (by as_aux_lemma => kernel_rfl) (by as_aux_lemma => kernel_rfl) (YR.value (by as_aux_lemma => kernel_rfl) (fun w _ => by as_aux_lemma => kernel_rfl)) ?_
   refine wpAnyR_take (i := 25) (oi := _) (v := .bool zh) rfl hNS hSW rfl (by as_aux_lemma => kernel_rfl) (by as_aux_lemma => kernel_rfl) (YR.value (by as_aux_lemma => kernel_rfl) (fun w _ => by as_aux_lemma => kernel_rfl)) ?_
   refine wpAnyR_take (i := 26) (oi := _) (v := gv zh (.bool za)) rfl hNS hSW rfl (by as_aux_lemma => kernel_rfl) (by as_aux_lemma => kernel_rfl) (YR.ite zh (fun hz => by subst hz; exact YR.value (by as_aux_lemma => kernel_rfl) (fun w _ => by as_aux_lemma => kernel_rfl)) (fun hz => by subst hz; kernel_rfl)) ?_
   refine wpAnyR_take (i := 27) (oi := _) (v := .bool y4) rfl hNS hSW rfl (by as_aux_lemma => kernel_rfl) (by as_aux_lemma => kernel_rfl) (YR.value (by as_aux_lemma => kernel_rfl) (fun w _ => by subst hy4; cases zh <;> kernel_rfl)) ?_
   refine wpAnyR_take (i := 28) (oi := _) (v := .bool y4) rfl hNS hSW rfl (by as_aux_lemma => kernel_rfl) (by as_aux_lemma => kernel_rfl) (YR.value (by as_aux_lemma => kernel_rfl) (fun w _ => by as_aux_lemma => kernel_rfl)) ?_
   refine wpAnyR_take (i := 29) (oi := _) (v := gv y4 (.pointer (some ⟨w.heap.size, 4, none⟩))) rfl hNS hSW rfl (by as_aux_lemma => kernel_rfl) (by as_aux_lemma => kernel_rfl) (YR.ite y4 (fun hz => by subst hz; exact YR.value (by as_aux_lemma => kernel_rfl) (fun w _ => by as_aux_lemma => kernel_rfl)) (fun hz => by subst hz; kernel_rfl)) ?_
   refine wpAnyR_take (i := 30) (oi := _) (v := gv y4 (.slice p m.ps.length c)) rfl hNS hSW rfl (by as_aux_lemma => kernel_rfl) (by as_aux_lemma => kernel_rfl) (YR.ite y4 (fun hz => by subst hz; exact YR.value (by as_aux_lemma => kernel_rfl) (fun w hS => run_load_any (x := .tmp 104) (PX.out w hS).pred rfl (by as_aux_lemma => kernel_rfl))) (fun hz => by subst hz; kernel_rfl)) ?_
   refine wpAnyR_take (i := 31) (oi := _) (v := gv y4 (.bool zp)) rfl hNS hSW rfl (by as_aux_lemma => kernel_rfl) (by as_aux_lemma => kernel_rfl) (YR.ite y4 (fun hz => by subst hz; exact YR.call (by as_aux_lemma => kernel_rfl) (fun w _ => by as_aux_lemma => kernel_rfl) (fun w hS => CP.out w hS)) (fun hz => by subst hz; kernel_rfl)) ?_
   refine wpAnyR_take (i := 32) (oi := _) (v := .bool y5) rfl hNS hSW rfl (by as_aux_lemma => kernel_rfl) (by as_aux_lemma => kernel_rfl) (YR.value (by as_aux_lemma => kernel_rfl) (fun w _ => by subst hy5; cases y4 <;> kernel_rfl)) ?_
   refine wpAnyR_take (i := 33) (oi := _) (v := .bool y5) rfl hNS hSW rfl (by as_aux_lemma => kernel_rfl) (by as_aux_lemma => kernel_rfl) (YR.value (by as_aux_lemma => kernel_rfl) (fun w _ => by as_aux_lemma => kernel_rfl)) ?_
   refine wpAnyR_take (i := 34) (oi := _) (v := gv y5 (.pointer (some ⟨w.heap.size, 12, none⟩))) rfl hNS hSW rfl (by as_aux_lemma => kernel_rfl) (by as_aux_lemma => kernel_rfl) (YR.ite y5 (fun hz => by subst hz; exact YR.value (by as_aux_lemma => kernel_rfl) (fun w _ => by as_aux_lemma => kernel_rfl)) (fun hz => by subst hz; kernel_rfl)) ?_
   refine wpAnyR_take (i := 35) (oi := _) (v := gv y5 (.int .u64 m.frm)) rfl hNS hSW rfl (by as_aux_lemma => kernel_rfl) (by as_aux_lemma => kernel_rfl) (YR.ite y5 (fun hz => by subst hz; exact YR.value (by as_aux_lemma => kernel_rfl) (fun w hS => run_load_any (x := .tmp 109) (PX.out w hS).frm rfl (by as_aux_lemma => kernel_rfl))) (fun hz => by subst hz; kernel_rfl)) ?_
   refine wpAnyR_take (i := 36) (oi := _) (v := gv y5 (.bool f1)) rfl hNS hSW rfl (by as_aux_lemma => kernel_rfl) (by as_aux_lemma => kernel_rfl) (YR.ite y5 (fun hz => by subst hz; exact YR.value (by as_aux_lemma => kernel_rfl) (fun w _ => F1.out w _ (by as_aux_lemma => kernel_rfl))) (fun hz => by subst hz; kernel_rfl)) ?_
   refine wpAnyR_take (i := 37) (oi := _) (v := .bool y6) rfl hNS hSW rfl (by as_aux_lemma => kernel_rfl) (by as_aux_lemma => kernel_rfl) (YR.value (by as_aux_lemma => kernel_rfl) (fun w _ => by subst hy6; cases y5 <;> kernel_rfl)) ?_
   refine wpAnyR_take (i := 38) (oi := _) (v := .bool y6) rfl hNS hSW rfl (by as_aux_lemma => kernel_rfl) (by as_aux_lemma => kernel_rfl) (YR.value (by as_aux_lemma => kernel_rfl) (fun w _ => by as_aux_lemma => kernel_rfl)) ?_
   refine wpAnyR_take (i := 39) (oi := _) (v := gv y6 (.pointer (some ⟨w.heap.size, 12, none⟩))) rfl hNS hSW rfl (by as_aux_lemma => kernel_rfl) (by as_aux_lemma => kernel_rfl) (YR.ite y6 (fun hz => by subst hz; exact YR.value (by as_aux_lemma => kernel_rfl) (fun w _ => by as_aux_lemma => kernel_rfl)) (fun hz => by subst hz; kernel_rfl)) ?_
   refine wpAnyR_take (i := 40) (oi := _) (v := gv y6 (.int .u64 m.frm)) rfl hNS hSW rfl (by as_aux_lemma => kernel_rfl) (by as_aux_lemma => kernel_rfl) (YR.ite y6 (fun hz => by subst hz; exact YR.value (by as_aux_lemma => kernel_rfl) (fun w hS => run_load_any (x := .tmp 114) (PX.out w hS).frm rfl (by as_aux_lemma => kernel_rfl))) (fun hz => by subst hz; kernel_rfl)) ?_
   refine wpAnyR_take (i := 41) (oi := _) (v := gv y6 (.bool f2)) rfl hNS hSW rfl (by as_aux_lemma => kernel_rfl) (by as_aux_lemma => kernel_rfl) (YR.ite y6 (fun hz => by subst hz; exact YR.value (by as_aux_lemma => kernel_rfl) (fun w _ => F2.out w _ (by as_aux_lemma => kernel_rfl))) (fun hz => by subst hz; kernel_rfl)) ?_
   refine wpAnyR_take (i := 42) (oi := _) (v := .bool y7) rfl hNS hSW rfl (by as_aux_lemma => kernel_rfl) (by as_aux_lemma => kernel_rfl) (YR.value (by as_aux_lemma => kernel_rfl) (fun w _ => by subst hy7; cases y6 <;> kernel_rfl)) ?_
   refine wpAnyR_take (i := 43) (oi := _) (v := .bool zh) rfl hNS hSW rfl (by as_aux_lemma => kernel_rfl) (by as_aux_lemma => kernel_rfl) (YR.value (by as_aux_lemma => kernel_rfl) (fun w _ => by as_aux_lemma => kernel_rfl)) ?_
   refine wpAnyR_take (i := 44) (oi := _) (v := .bool zh) rfl hNS hSW rfl (by as_aux_lemma => kernel_rfl) (by as_aux_lemma => kernel_rfl) (YR.value (by as_aux_lemma => kernel_rfl) (fun w _ => by as_aux_lemma => kernel_rfl)) ?_
   refine wpAnyR_take (i := 45) (oi := _) (v := gv zh (.bool za)) rfl hNS hSW rfl (by as_aux_lemma => kernel_rfl) (by as_aux_lemma => kernel_rfl) (YR.ite zh (fun hz => by subst hz; exact YR.value (by as_aux_lemma => kernel_rfl) (fun w _ => by as_aux_lemma => kernel_rfl)) (fun hz => by subst hz; kernel_rfl)) ?_
   refine wpAnyR_take (i := 46) (oi := _) (v := .bool y4) rfl hNS hSW rfl (by as_aux_lemma => kernel_rfl) (by as_aux_lemma => kernel_rfl) (YR.value (by as_aux_lemma => kernel_rfl) (fun w _ => by subst hy4; cases zh <;> kernel_rfl)) ?_
   refine wpAnyR_take (i := 47) (oi := _) (v := .bool y4) rfl hNS hSW rfl (by as_aux_lemma => kernel_rfl) (by as_aux_lemma => kernel_rfl) (YR.value (by as_aux_lemma => kernel_rfl) (fun w _ => by as_aux_lemma => kernel_rfl)) ?_
   refine wpAnyR_take (i := 48) (oi := _) (v := gv y4 (.pointer (some ⟨w.heap.size, 13, none⟩))) rfl hNS hSW rfl (by as_aux_lemma => kernel_rfl) (by as_aux_lemma => kernel_rfl) (YR.ite y4 (fun hz => by subst hz; exact YR.value (by as_aux_lemma => kernel_rfl) (fun w _ => by as_aux_lemma => kernel_rfl)) (fun hz => by subst hz; kernel_rfl)) ?_
   refine wpAnyR_take (i := 49) (oi := _) (v := gv y4 (.agg m.pg.cells.toArray)) rfl hNS hSW rfl (by as_aux_lemma => kernel_rfl) (by as_aux_lemma => kernel_rfl) (YR.ite y4 (fun hz => by subst hz; exact YR.value (by as_aux_lemma => kernel_rfl) (fun w hS => run_load_any (x := .tmp 123) (PX.out w hS).page rfl (by as_aux_lemma => kernel_rfl))) (fun hz => by subst hz; kernel_rfl)) ?_
   refine wpAnyR_take (i := 50) (oi := _) (v := gv y4 (.bool zg)) rfl hNS hSW rfl (by as_aux_lemma => kernel_rfl) (by as_aux_lemma => kernel_rfl) (YR.ite y4 (fun hz => by subst hz; exact YR.call (by as_aux_lemma => kernel_rfl) (fun w _ => by as_aux_lemma => kernel_rfl) (fun w hS => CG.out w hS)) (fun hz => by subst hz; kernel_rfl)) ?_
   refine wpAnyR_take (i := 51) (oi := _) (v := .bool y8) rfl hNS hSW rfl (by as_aux_lemma => kernel_rfl) (by as_aux_lemma => kernel_rfl) (YR.value (by as_aux_lemma => kernel_rfl) (fun w _ => by subst hy8; cases y4 <;> kernel_rfl)) ?_
   refine wpAnyR_take (i := 52) (oi := _) (v := .agg #[.bool y2, .bool zp, .bool zp, .bool y3, .bool y7, .bool y8]) rfl hNS hSW rfl (by as_aux_lemma => kernel_rfl) (by as_aux_lemma => kernel_rfl) (YR.value (by as_aux_lemma => kernel_rfl) (fun w _ => by as_aux_lemma => kernel_rfl)) ?_
   refine wpAnyR_stop (by kernel_rfl) ?_
   intro b w5 hB
   obtain ⟨Wb, hst, bb, kb⟩ := store_cells hB.2.1 (ty := 67) #[.bool y2, .bool zp, .bool zp, .bool y3, .bool y7, .bool y8] (by simp) (by kernel_rfl) (by simp [Value.oneCell']) (putRange_whole (by simp))
   refine wpOp_skip rfl (by kernel_rfl) (run_store_any (x := .tmp 7) (y := .tmp 127) hst rfl (by kernel_rfl) (by kernel_rfl)) ?_
   clear hNS hSW
   try simp only [Act.put, List.setIfInBounds_toArray, List.set_cons_zero, List.set_cons_succ]
   go_wp2_with fail
   go_meet
   case rel => exact ⟨b, rfl, hB.1.then kb (fun i hi e => by have := hB.2.2; omega), bb⟩
 obtain ⟨mb, rfl, o5, b5⟩ := hcut
 have K5 := Lib.hid (And.intro (K4.out.1.trans o5) (And.intro ((o5.block _ (lt_of_heap K4.out.2) (fun f => f)).trans K4.out.2) b5))
 clear o5 b5 hy1 hy2 hy3 hy4 hy5 hy6 hy7 hy8 hf1 hf2 hza hzn hzp hzi hzg F1 F2
 -- THE LOOP
 go_wp2_with fail
 go_loopw [8] (fun v8 wr => ∃ i : Nat, i ≤ 6 ∧ v8 = .int .i64 i ∧ Old wc wr) (fun v8 _ => 6 - (intOf v8).toNat)
 case atStart => exact ⟨0, by omega, rfl, Keeps.refl _ _⟩
 case round =>
  obtain ⟨i, hi, rfl, hk⟩ := hrel
  by_cases hlt : i < 6
  ·obtain ⟨x, hx⟩ : ∃ x, RR (lit m p c) i = x := ⟨_, rfl⟩
   have kwc : Old w wc := B.out.1.trans K5.out.1
   have XF := Lib.hid (fun W (o : Old wc W) => (hx ▸ RF.out W (kwc.trans o) i hlt : x.fine W))
   have LX := Lib.hid (fun W (o : Old wc W) => (hx ▸ load_six ((o.block _ (lt_of_heap K5.out.2.1) (fun f => f)).trans K5.out.2.1) hlt : (loadVar 44 ⟨W0.heap.size, i * 18, none⟩).run Tryz.prog W = .ok (.agg x.cells.toArray) W))
   obtain ⟨t, ht⟩ : ∃ t, mays (lit m p c) i = t := ⟨_, rfl⟩
   have hmx : mayM x.plain = t := by rw [← hx, ← ht]; exact HE.out i hlt
   have TX := Lib.hid (fun W (o : Old wc W) => (by
    have h0 := (o.block _ (lt_of_heap K5.out.2.2) (fun f => f)).trans K5.out.2.2
    obtain ⟨m0, m1, m2, m3, m4, m5⟩ := MB.out
    rcases six hlt with rfl | rfl | rfl | rfl | rfl | rfl
    all_goals (rw [← ht]; simp [World.cell?, h0, m0, m1, m2, m3, m4, m5]) : W.cell? ⟨mb, i, none⟩ = some (.bool t)))
   have BAD := Lib.hid (And.intro (fun h0 => (hx ▸ badV (lit m p c) hlt h0 : mayM ({ x with ver := 1 } : Ms).plain = false)) (And.intro (fun h0 => (hx ▸ badT (lit m p c) hlt h0 : mayM ({ x with there := true } : Ms).plain = false)) (And.intro (fun h0 => (hx ▸ badF (lit m p c) hlt h0 : mayM ({ x with frm := 1 } : Ms).plain = false)) (And.intro (fun h0 => (hx ▸ badL (lit m p c) hlt h0 : mayM ({ x with pg := { x.pg with last := true } } : Ms).plain = false)) (And.intro (fun h0 => (hx ▸ badI (lit m p c) hlt h0 : mayM ({ x with it := { x.it with time := 1 } } : Ms).plain = false)) (fun h0 => (hx ▸ badK (lit m p c) hlt h0 : mayM ({ x with tl := 1 } : Ms).plain = false)))))))
   have lB : ∀ a W, (loadVar 4 a).run Tryz.prog W = (load a).run Tryz.prog W := fun _ _ => by kernel_rfl
   have gA := fun q : OldOf wr => LX.out q.to (hk.trans q.old)
   have gB := fun q : OldOf wr => TX.out q.to (hk.trans q.old)
   have CM := fun q : OldOf wr => Calls.quiet_of_old (p := q) (msg_may_any x q.to (XF.out q.to (hk.trans q.old)))
   rw [hmx] at CM
   have QM := Lib.hid CM
   have HK := Lib.hid hk
   have i1 : (0 : Int) ≤ (i : Int) := by omega
   have i2 : (i : Int) < 6 := by omega
   clear hx CM hk hmx ht kwc
   go_wp2_with fail
   refine wp_region_quiet_old (by kernel_rfl) (by kernel_rfl) ?_
   repeat (go_big_quiet_step (((go_at_call 15; exact QM.out _))))
   refine wpQuiet_nil ?_
   intro _ hpq
   obtain ⟨pq, hpq'⟩ := hpq
   subst hpq'
   have KQ := Lib.hid (HK.out.trans pq.old)
   obtain ⟨Wq, hWq⟩ : ∃ W, W = pq.to := ⟨_, rfl⟩
   rw [← hWq] at KQ ⊢
   clear hWq pq gA gB QM HK TX
   have OX := Lib.hid ((XF.out Wq KQ.out).one)
   obtain ⟨W0a, hW0a⟩ : ∃ W, Wq.alloc (.cells zeroMs.cells.toArray 44) = W := ⟨_, rfl⟩
   have hb0 : MAt W0a Wq.heap.size zeroMs := by rw [← hW0a]; exact heap_alloc_new _ _
   have ho0 : Old Wq W0a := by rw [← hW0a]; exact (Keeps.refl _ _).alloc _
   have hsz : wc.heap.size ≤ Wq.heap.size := KQ.out.size
   have SZ := Lib.hid (fun (A C : World) (h : Old wc A) (k : Keeps (fun j => j = Wq.heap.size) A C) => (h.then k (fun j hj e => by omega) : Old wc C))
   change Wq.alloc (.cells #[.int .i64 0, .int .i64 0, .int .u64 0, .bool false, .slice none 0 0, .int .u64 0, .int .u64 0, .string ⟨#[]⟩, .slice none 0 0, .int .i64 0, .int .u64 0, .int .u64 0, .int .u64 0, .int .u64 0, .int .u64 0, .slice none 0 0, .slice none 0 0, .bool false] 44) = W0a at hW0a
   rcases six hlt with hi | hi | hi | hi | hi | hi
   ·as_aux_lemma =>
     have HI := Lib.hid hi
     have dgt0 : decide ((0 : Int) < (i : Int)) = false := by rw [hi]; rfl
     have dgt0n : decide (0 < i) = false := by rw [hi]; rfl
     have dlt5 : decide ((i : Int) < 5) = true := by rw [hi]; rfl
     have dlt5n : decide (i < 5) = true := by rw [hi]; rfl
     have dlt4 : decide ((i : Int) < 4) = true := by rw [hi]; rfl
     have dlt4n : decide (i < 4) = true := by rw [hi]; rfl
     have e3 : ((i : Int) == 3) = false := by rw [hi]; rfl
     have e3n : (i == 3) = false := by rw [hi]; rfl
     have ne3 : ((i : Int) != 3) = true := by rw [hi]; rfl
     have ne3n : (i != 3) = true := by rw [hi]; rfl
     have e4 : ((i : Int) == 4) = false := by rw [hi]; rfl
     have e4n : (i == 4) = false := by rw [hi]; rfl
     have ne4 : ((i : Int) != 4) = true := by rw [hi]; rfl
     have ne4n : (i != 4) = true := by rw [hi]; rfl
     clear hi
     have l1 := LX.out Wq KQ.out
     obtain ⟨U1, hs1, bs1, kb1⟩ := store_msg hb0 x OX.out
     obtain ⟨V1, ht1, bt1, kt1⟩ := store_ver bs1 1
     change (storeVar 22 ⟨Wq.heap.size, 2, none⟩ (.int .u64 1)).run Tryz.prog U1 = .ok () V1 at ht1
     have oV1 : Old wc V1 := SZ.out _ _ (SZ.out _ _ (KQ.out.trans ho0) kb1) kt1
     have l2 := LX.out V1 oV1
     obtain ⟨U2, hs2, bs2, kb2⟩ := store_msg bt1 x OX.out
     obtain ⟨V2, ht2, bt2, kt2⟩ := store_there bs2 true
     change (storeVar 4 ⟨Wq.heap.size, 3, none⟩ (.bool true)).run Tryz.prog U2 = .ok () V2 at ht2
     have oV2 : Old wc V2 := SZ.out _ _ (SZ.out _ _ oV1 kb2) kt2
     have l3 := LX.out V2 oV2
     obtain ⟨U3, hs3, bs3, kb3⟩ := store_msg bt2 x OX.out
     obtain ⟨V3, ht3, bt3, kt3⟩ := store_from bs3 1
     change (storeVar 22 ⟨Wq.heap.size, 12, none⟩ (.int .u64 1)).run Tryz.prog U3 = .ok () V3 at ht3
     have oV3 : Old wc V3 := SZ.out _ _ (SZ.out _ _ oV2 kb3) kt3
     have g3 := load_msg bt3 rfl
     have C3 := msg_may_any ({ x with frm := 1 } : Ms) V3 (fine_frm (XF.out V3 oV3))
     rw [BAD.out.2.2.1 (by have := HI.out; omega)] at C3
     have H3 := Lib.hid C3
     have B3 := Lib.hid (And.intro oV3 bt3)
     clear C3 oV3 bs3 kb3 kt3 bt3
     go_wp2_with fail
     refine H3.out.mono ?_
     rintro e X3 ⟨rfl, k3⟩
     have N3 := Lib.hid (And.intro (B3.out.1.trans k3) ((k3.block _ (lt_of_heap B3.out.2) (fun f => f)).trans B3.out.2))
     clear k3 H3 B3 l1 hs1 ht1 l2 hs2 ht2 l3 hs3 ht3 g3 hW0a hb0 ho0
     have l4 := LX.out X3 N3.out.1
     obtain ⟨U4, hs4, bs4, kb4⟩ := store_msg N3.out.2 x OX.out
     obtain ⟨V4, ht4, bt4, kt4⟩ := store_last bs4 true
     change (storeVar 4 ⟨Wq.heap.size, 17, none⟩ (.bool true)).run Tryz.prog U4 = .ok () V4 at ht4
     have oV4 : Old wc V4 := SZ.out _ _ (SZ.out _ _ N3.out.1 kb4) kt4
     have g4 := load_msg bt4 rfl
     have C4 := msg_may_any ({ x with pg := { x.pg with last := true } } : Ms) V4 (fine_last (XF.out V4 oV4))
     rw [BAD.out.2.2.2.1 (by have := HI.out; omega)] at C4
     have H4 := Lib.hid C4
     have B4 := Lib.hid (And.intro oV4 bt4)
     clear C4 oV4 bs4 kb4 kt4 bt4
     go_wp2_with fail
     refine H4.out.mono ?_
     rintro e X4 ⟨rfl, k4⟩
     have N4 := Lib.hid (And.intro (B4.out.1.trans k4) ((k4.block _ (lt_of_heap B4.out.2) (fun f => f)).trans B4.out.2))
     clear k4 H4 B4 l4 hs4 ht4 g4
     have l5 := LX.out X4 N4.out.1
     obtain ⟨U5, hs5, bs5, kb5⟩ := store_msg N4.out.2 x OX.out
     obtain ⟨V5, ht5, bt5, kt5⟩ := store_time bs5 1
     change (storeVar 22 ⟨Wq.heap.size, 6, none⟩ (.int .u64 1)).run Tryz.prog U5 = .ok () V5 at ht5
     have oV5 : Old wc V5 := SZ.out _ _ (SZ.out _ _ N4.out.1 kb5) kt5
     have g5 := load_msg bt5 rfl
     have C5 := msg_may_any ({ x with it := { x.it with time := 1 } } : Ms) V5 (fine_time (XF.out V5 oV5))
     rw [BAD.out.2.2.2.2.1 (by have := HI.out; omega)] at C5
     have H5 := Lib.hid C5
     have B5 := Lib.hid (And.intro oV5 bt5)
     clear C5 oV5 bs5 kb5 kt5 bt5
     go_wp2_with fail
     refine H5.out.mono ?_
     rintro e X5 ⟨rfl, k5⟩
     have N5 := Lib.hid (And.intro (B5.out.1.trans k5) ((k5.block _ (lt_of_heap B5.out.2) (fun f => f)).trans B5.out.2))
     clear k5 H5 B5 l5 hs5 ht5 g5
     have l6 := LX.out X5 N5.out.1
     obtain ⟨U6, hs6, bs6, kb6⟩ := store_msg N5.out.2 x OX.out
     obtain ⟨V6, ht6, bt6, kt6⟩ := store_life bs6 1
     change (storeVar 22 ⟨Wq.heap.size, 10, none⟩ (.int .u64 1)).run Tryz.prog U6 = .ok () V6 at ht6
     have oV6 : Old wc V6 := SZ.out _ _ (SZ.out _ _ N5.out.1 kb6) kt6
     have g6 := load_msg bt6 rfl
     have C6 := msg_may_any ({ x with tl := 1 } : Ms) V6 (fine_life (XF.out V6 oV6))
     rw [BAD.out.2.2.2.2.2 (by have := HI.out; omega)] at C6
     have H6 := Lib.hid C6
     have B6 := Lib.hid (And.intro oV6 bt6)
     clear C6 oV6 bs6 kb6 kt6 bt6
     go_wp2_with fail
     refine H6.out.mono ?_
     rintro e X6 ⟨rfl, k6⟩
     have N6 := Lib.hid (And.intro (B6.out.1.trans k6) ((k6.block _ (lt_of_heap B6.out.2) (fun f => f)).trans B6.out.2))
     clear k6 H6 B6 l6 hs6 ht6 g6
     have FIN := Lib.hid (N6.out.1)
     go_wp2_with fail
     go_roundw
     case rel => exact ⟨i + 1, by omega, by go_num, FIN.out⟩
     case measure => simp [intOf]; omega
   ·as_aux_lemma =>
     have HI := Lib.hid hi
     have dgt0 : decide ((0 : Int) < (i : Int)) = true := by rw [hi]; rfl
     have dgt0n : decide (0 < i) = true := by rw [hi]; rfl
     have dlt5 : decide ((i : Int) < 5) = true := by rw [hi]; rfl
     have dlt5n : decide (i < 5) = true := by rw [hi]; rfl
     have dlt4 : decide ((i : Int) < 4) = true := by rw [hi]; rfl
     have dlt4n : decide (i < 4) = true := by rw [hi]; rfl
     have e3 : ((i : Int) == 3) = false := by rw [hi]; rfl
     have e3n : (i == 3) = false := by rw [hi]; rfl
     have ne3 : ((i : Int) != 3) = true := by rw [hi]; rfl
     have ne3n : (i != 3) = true := by rw [hi]; rfl
     have e4 : ((i : Int) == 4) = false := by rw [hi]; rfl
     have e4n : (i == 4) = false := by rw [hi]; rfl
     have ne4 : ((i : Int) != 4) = true := by rw [hi]; rfl
     have ne4n : (i != 4) = true := by rw [hi]; rfl
     clear hi
     have l1 := LX.out Wq KQ.out
     obtain ⟨U1, hs1, bs1, kb1⟩ := store_msg hb0 x OX.out
     obtain ⟨V1, ht1, bt1, kt1⟩ := store_ver bs1 1
     change (storeVar 22 ⟨Wq.heap.size, 2, none⟩ (.int .u64 1)).run Tryz.prog U1 = .ok () V1 at ht1
     have oV1 : Old wc V1 := SZ.out _ _ (SZ.out _ _ (KQ.out.trans ho0) kb1) kt1
     have g1 := load_msg bt1 rfl
     have C1 := msg_may_any ({ x with ver := 1 } : Ms) V1 (fine_ver (XF.out V1 oV1))
     rw [BAD.out.1 (by have := HI.out; omega)] at C1
     have H1 := Lib.hid C1
     have B1 := Lib.hid (And.intro oV1 bt1)
     clear C1 oV1 bs1 kb1 kt1 bt1
     go_wp2_with fail
     refine H1.out.mono ?_
     rintro e X1 ⟨rfl, k1⟩
     have N1 := Lib.hid (And.intro (B1.out.1.trans k1) ((k1.block _ (lt_of_heap B1.out.2) (fun f => f)).trans B1.out.2))
     clear k1 H1 B1 l1 hs1 ht1 g1 hW0a hb0 ho0
     have l2 := LX.out X1 N1.out.1
     obtain ⟨U2, hs2, bs2, kb2⟩ := store_msg N1.out.2 x OX.out
     obtain ⟨V2, ht2, bt2, kt2⟩ := store_there bs2 true
     change (storeVar 4 ⟨Wq.heap.size, 3, none⟩ (.bool true)).run Tryz.prog U2 = .ok () V2 at ht2
     have oV2 : Old wc V2 := SZ.out _ _ (SZ.out _ _ N1.out.1 kb2) kt2
     have g2 := load_msg bt2 rfl
     have C2 := msg_may_any ({ x with there := true } : Ms) V2 (fine_there (XF.out V2 oV2) true)
     rw [BAD.out.2.1 (by have := HI.out; omega)] at C2
     have H2 := Lib.hid C2
     have B2 := Lib.hid (And.intro oV2 bt2)
     clear C2 oV2 bs2 kb2 kt2 bt2
     go_wp2_with fail
     refine H2.out.mono ?_
     rintro e X2 ⟨rfl, k2⟩
     have N2 := Lib.hid (And.intro (B2.out.1.trans k2) ((k2.block _ (lt_of_heap B2.out.2) (fun f => f)).trans B2.out.2))
     clear k2 H2 B2 l2 hs2 ht2 g2
     have l3 := LX.out X2 N2.out.1
     obtain ⟨U3, hs3, bs3, kb3⟩ := store_msg N2.out.2 x OX.out
     obtain ⟨V3, ht3, bt3, kt3⟩ := store_from bs3 1
     change (storeVar 22 ⟨Wq.heap.size, 12, none⟩ (.int .u64 1)).run Tryz.prog U3 = .ok () V3 at ht3
     have oV3 : Old wc V3 := SZ.out _ _ (SZ.out _ _ N2.out.1 kb3) kt3
     have g3 := load_msg bt3 rfl
     have C3 := msg_may_any ({ x with frm := 1 } : Ms) V3 (fine_frm (XF.out V3 oV3))
     rw [BAD.out.2.2.1 (by have := HI.out; omega)] at C3
     have H3 := Lib.hid C3
     have B3 := Lib.hid (And.intro oV3 bt3)
     clear C3 oV3 bs3 kb3 kt3 bt3
     go_wp2_with fail
     refine H3.out.mono ?_
     rintro e X3 ⟨rfl, k3⟩
     have N3 := Lib.hid (And.intro (B3.out.1.trans k3) ((k3.block _ (lt_of_heap B3.out.2) (fun f => f)).trans B3.out.2))
     clear k3 H3 B3 l3 hs3 ht3 g3
     have l4 := LX.out X3 N3.out.1
     obtain ⟨U4, hs4, bs4, kb4⟩ := store_msg N3.out.2 x OX.out
     obtain ⟨V4, ht4, bt4, kt4⟩ := store_last bs4 true
     change (storeVar 4 ⟨Wq.heap.size, 17, none⟩ (.bool true)).run Tryz.prog U4 = .ok () V4 at ht4
     have oV4 : Old wc V4 := SZ.out _ _ (SZ.out _ _ N3.out.1 kb4) kt4
     have g4 := load_msg bt4 rfl
     have C4 := msg_may_any ({ x with pg := { x.pg with last := true } } : Ms) V4 (fine_last (XF.out V4 oV4))
     rw [BAD.out.2.2.2.1 (by have := HI.out; omega)] at C4
     have H4 := Lib.hid C4
     have B4 := Lib.hid (And.intro oV4 bt4)
     clear C4 oV4 bs4 kb4 kt4 bt4
     go_wp2_with fail
     refine H4.out.mono ?_
     rintro e X4 ⟨rfl, k4⟩
     have N4 := Lib.hid (And.intro (B4.out.1.trans k4) ((k4.block _ (lt_of_heap B4.out.2) (fun f => f)).trans B4.out.2))
     clear k4 H4 B4 l4 hs4 ht4 g4
     have l5 := LX.out X4 N4.out.1
     obtain ⟨U5, hs5, bs5, kb5⟩ := store_msg N4.out.2 x OX.out
     obtain ⟨V5, ht5, bt5, kt5⟩ := store_time bs5 1
     change (storeVar 22 ⟨Wq.heap.size, 6, none⟩ (.int .u64 1)).run Tryz.prog U5 = .ok () V5 at ht5
     have oV5 : Old wc V5 := SZ.out _ _ (SZ.out _ _ N4.out.1 kb5) kt5
     have g5 := load_msg bt5 rfl
     have C5 := msg_may_any ({ x with it := { x.it with time := 1 } } : Ms) V5 (fine_time (XF.out V5 oV5))
     rw [BAD.out.2.2.2.2.1 (by have := HI.out; omega)] at C5
     have H5 := Lib.hid C5
     have B5 := Lib.hid (And.intro oV5 bt5)
     clear C5 oV5 bs5 kb5 kt5 bt5
     go_wp2_with fail
     refine H5.out.mono ?_
     rintro e X5 ⟨rfl, k5⟩
     have N5 := Lib.hid (And.intro (B5.out.1.trans k5) ((k5.block _ (lt_of_heap B5.out.2) (fun f => f)).trans B5.out.2))
     clear k5 H5 B5 l5 hs5 ht5 g5
     have l6 := LX.out X5 N5.out.1
     obtain ⟨U6, hs6, bs6, kb6⟩ := store_msg N5.out.2 x OX.out
     obtain ⟨V6, ht6, bt6, kt6⟩ := store_life bs6 1
     change (storeVar 22 ⟨Wq.heap.size, 10, none⟩ (.int .u64 1)).run Tryz.prog U6 = .ok () V6 at ht6
     have oV6 : Old wc V6 := SZ.out _ _ (SZ.out _ _ N5.out.1 kb6) kt6
     have g6 := load_msg bt6 rfl
     have C6 := msg_may_any ({ x with tl := 1 } : Ms) V6 (fine_life (XF.out V6 oV6))
     rw [BAD.out.2.2.2.2.2 (by have := HI.out; omega)] at C6
     have H6 := Lib.hid C6
     have B6 := Lib.hid (And.intro oV6 bt6)
     clear C6 oV6 bs6 kb6 kt6 bt6
     go_wp2_with fail
     refine H6.out.mono ?_
     rintro e X6 ⟨rfl, k6⟩
     have N6 := Lib.hid (And.intro (B6.out.1.trans k6) ((k6.block _ (lt_of_heap B6.out.2) (fun f => f)).trans B6.out.2))
     clear k6 H6 B6 l6 hs6 ht6 g6
     have FIN := Lib.hid (N6.out.1)
     go_wp2_with fail
     go_roundw
     case rel => exact ⟨i + 1, by omega, by go_num, FIN.out⟩
     case measure => simp [intOf]; omega
   ·as_aux_lemma =>
     have HI := Lib.hid hi
     have dgt0 : decide ((0 : Int) < (i : Int)) = true := by rw [hi]; rfl
     have dgt0n : decide (0 < i) = true := by rw [hi]; rfl
     have dlt5 : decide ((i : Int) < 5) = true := by rw [hi]; rfl
     have dlt5n : decide (i < 5) = true := by rw [hi]; rfl
     have dlt4 : decide ((i : Int) < 4) = true := by rw [hi]; rfl
     have dlt4n : decide (i < 4) = true := by rw [hi]; rfl
     have e3 : ((i : Int) == 3) = false := by rw [hi]; rfl
     have e3n : (i == 3) = false := by rw [hi]; rfl
     have ne3 : ((i : Int) != 3) = true := by rw [hi]; rfl
     have ne3n : (i != 3) = true := by rw [hi]; rfl
     have e4 : ((i : Int) == 4) = false := by rw [hi]; rfl
     have e4n : (i == 4) = false := by rw [hi]; rfl
     have ne4 : ((i : Int) != 4) = true := by rw [hi]; rfl
     have ne4n : (i != 4) = true := by rw [hi]; rfl
     clear hi
     have l1 := LX.out Wq KQ.out
     obtain ⟨U1, hs1, bs1, kb1⟩ := store_msg hb0 x OX.out
     obtain ⟨V1, ht1, bt1, kt1⟩ := store_ver bs1 1
     change (storeVar 22 ⟨Wq.heap.size, 2, none⟩ (.int .u64 1)).run Tryz.prog U1 = .ok () V1 at ht1
     have oV1 : Old wc V1 := SZ.out _ _ (SZ.out _ _ (KQ.out.trans ho0) kb1) kt1
     have g1 := load_msg bt1 rfl
     have C1 := msg_may_any ({ x with ver := 1 } : Ms) V1 (fine_ver (XF.out V1 oV1))
     rw [BAD.out.1 (by have := HI.out; omega)] at C1
     have H1 := Lib.hid C1
     have B1 := Lib.hid (And.intro oV1 bt1)
     clear C1 oV1 bs1 kb1 kt1 bt1
     go_wp2_with fail
     refine H1.out.mono ?_
     rintro e X1 ⟨rfl, k1⟩
     have N1 := Lib.hid (And.intro (B1.out.1.trans k1) ((k1.block _ (lt_of_heap B1.out.2) (fun f => f)).trans B1.out.2))
     clear k1 H1 B1 l1 hs1 ht1 g1 hW0a hb0 ho0
     have l2 := LX.out X1 N1.out.1
     obtain ⟨U2, hs2, bs2, kb2⟩ := store_msg N1.out.2 x OX.out
     obtain ⟨V2, ht2, bt2, kt2⟩ := store_there bs2 true
     change (storeVar 4 ⟨Wq.heap.size, 3, none⟩ (.bool true)).run Tryz.prog U2 = .ok () V2 at ht2
     have oV2 : Old wc V2 := SZ.out _ _ (SZ.out _ _ N1.out.1 kb2) kt2
     have g2 := load_msg bt2 rfl
     have C2 := msg_may_any ({ x with there := true } : Ms) V2 (fine_there (XF.out V2 oV2) true)
     rw [BAD.out.2.1 (by have := HI.out; omega)] at C2
     have H2 := Lib.hid C2
     have B2 := Lib.hid (And.intro oV2 bt2)
     clear C2 oV2 bs2 kb2 kt2 bt2
     go_wp2_with fail
     refine H2.out.mono ?_
     rintro e X2 ⟨rfl, k2⟩
     have N2 := Lib.hid (And.intro (B2.out.1.trans k2) ((k2.block _ (lt_of_heap B2.out.2) (fun f => f)).trans B2.out.2))
     clear k2 H2 B2 l2 hs2 ht2 g2
     have l3 := LX.out X2 N2.out.1
     obtain ⟨U3, hs3, bs3, kb3⟩ := store_msg N2.out.2 x OX.out
     obtain ⟨V3, ht3, bt3, kt3⟩ := store_from bs3 1
     change (storeVar 22 ⟨Wq.heap.size, 12, none⟩ (.int .u64 1)).run Tryz.prog U3 = .ok () V3 at ht3
     have oV3 : Old wc V3 := SZ.out _ _ (SZ.out _ _ N2.out.1 kb3) kt3
     have g3 := load_msg bt3 rfl
     have C3 := msg_may_any ({ x with frm := 1 } : Ms) V3 (fine_frm (XF.out V3 oV3))
     rw [BAD.out.2.2.1 (by have := HI.out; omega)] at C3
     have H3 := Lib.hid C3
     have B3 := Lib.hid (And.intro oV3 bt3)
     clear C3 oV3 bs3 kb3 kt3 bt3
     go_wp2_with fail
     refine H3.out.mono ?_
     rintro e X3 ⟨rfl, k3⟩
     have N3 := Lib.hid (And.intro (B3.out.1.trans k3) ((k3.block _ (lt_of_heap B3.out.2) (fun f => f)).trans B3.out.2))
     clear k3 H3 B3 l3 hs3 ht3 g3
     have l4 := LX.out X3 N3.out.1
     obtain ⟨U4, hs4, bs4, kb4⟩ := store_msg N3.out.2 x OX.out
     obtain ⟨V4, ht4, bt4, kt4⟩ := store_last bs4 true
     change (storeVar 4 ⟨Wq.heap.size, 17, none⟩ (.bool true)).run Tryz.prog U4 = .ok () V4 at ht4
     have oV4 : Old wc V4 := SZ.out _ _ (SZ.out _ _ N3.out.1 kb4) kt4
     have g4 := load_msg bt4 rfl
     have C4 := msg_may_any ({ x with pg := { x.pg with last := true } } : Ms) V4 (fine_last (XF.out V4 oV4))
     rw [BAD.out.2.2.2.1 (by have := HI.out; omega)] at C4
     have H4 := Lib.hid C4
     have B4 := Lib.hid (And.intro oV4 bt4)
     clear C4 oV4 bs4 kb4 kt4 bt4
     go_wp2_with fail
     refine H4.out.mono ?_
     rintro e X4 ⟨rfl, k4⟩
     have N4 := Lib.hid (And.intro (B4.out.1.trans k4) ((k4.block _ (lt_of_heap B4.out.2) (fun f => f)).trans B4.out.2))
     clear k4 H4 B4 l4 hs4 ht4 g4
     have l5 := LX.out X4 N4.out.1
     obtain ⟨U5, hs5, bs5, kb5⟩ := store_msg N4.out.2 x OX.out
     obtain ⟨V5, ht5, bt5, kt5⟩ := store_time bs5 1
     change (storeVar 22 ⟨Wq.heap.size, 6, none⟩ (.int .u64 1)).run Tryz.prog U5 = .ok () V5 at ht5
     have oV5 : Old wc V5 := SZ.out _ _ (SZ.out _ _ N4.out.1 kb5) kt5
     have g5 := load_msg bt5 rfl
     have C5 := msg_may_any ({ x with it := { x.it with time := 1 } } : Ms) V5 (fine_time (XF.out V5 oV5))
     rw [BAD.out.2.2.2.2.1 (by have := HI.out; omega)] at C5
     have H5 := Lib.hid C5
     have B5 := Lib.hid (And.intro oV5 bt5)
     clear C5 oV5 bs5 kb5 kt5 bt5
     go_wp2_with fail
     refine H5.out.mono ?_
     rintro e X5 ⟨rfl, k5⟩
     have N5 := Lib.hid (And.intro (B5.out.1.trans k5) ((k5.block _ (lt_of_heap B5.out.2) (fun f => f)).trans B5.out.2))
     clear k5 H5 B5 l5 hs5 ht5 g5
     have l6 := LX.out X5 N5.out.1
     obtain ⟨U6, hs6, bs6, kb6⟩ := store_msg N5.out.2 x OX.out
     obtain ⟨V6, ht6, bt6, kt6⟩ := store_life bs6 1
     change (storeVar 22 ⟨Wq.heap.size, 10, none⟩ (.int .u64 1)).run Tryz.prog U6 = .ok () V6 at ht6
     have oV6 : Old wc V6 := SZ.out _ _ (SZ.out _ _ N5.out.1 kb6) kt6
     have g6 := load_msg bt6 rfl
     have C6 := msg_may_any ({ x with tl := 1 } : Ms) V6 (fine_life (XF.out V6 oV6))
     rw [BAD.out.2.2.2.2.2 (by have := HI.out; omega)] at C6
     have H6 := Lib.hid C6
     have B6 := Lib.hid (And.intro oV6 bt6)
     clear C6 oV6 bs6 kb6 kt6 bt6
     go_wp2_with fail
     refine H6.out.mono ?_
     rintro e X6 ⟨rfl, k6⟩
     have N6 := Lib.hid (And.intro (B6.out.1.trans k6) ((k6.block _ (lt_of_heap B6.out.2) (fun f => f)).trans B6.out.2))
     clear k6 H6 B6 l6 hs6 ht6 g6
     have FIN := Lib.hid (N6.out.1)
     go_wp2_with fail
     go_roundw
     case rel => exact ⟨i + 1, by omega, by go_num, FIN.out⟩
     case measure => simp [intOf]; omega
   ·as_aux_lemma =>
     have HI := Lib.hid hi
     have dgt0 : decide ((0 : Int) < (i : Int)) = true := by rw [hi]; rfl
     have dgt0n : decide (0 < i) = true := by rw [hi]; rfl
     have dlt5 : decide ((i : Int) < 5) = true := by rw [hi]; rfl
     have dlt5n : decide (i < 5) = true := by rw [hi]; rfl
     have dlt4 : decide ((i : Int) < 4) = true := by rw [hi]; rfl
     have dlt4n : decide (i < 4) = true := by rw [hi]; rfl
     have e3 : ((i : Int) == 3) = true := by rw [hi]; rfl
     have e3n : (i == 3) = true := by rw [hi]; rfl
     have ne3 : ((i : Int) != 3) = false := by rw [hi]; rfl
     have ne3n : (i != 3) = false := by rw [hi]; rfl
     have e4 : ((i : Int) == 4) = false := by rw [hi]; rfl
     have e4n : (i == 4) = false := by rw [hi]; rfl
     have ne4 : ((i : Int) != 4) = true := by rw [hi]; rfl
     have ne4n : (i != 4) = true := by rw [hi]; rfl
     clear hi
     have l1 := LX.out Wq KQ.out
     obtain ⟨U1, hs1, bs1, kb1⟩ := store_msg hb0 x OX.out
     obtain ⟨V1, ht1, bt1, kt1⟩ := store_ver bs1 1
     change (storeVar 22 ⟨Wq.heap.size, 2, none⟩ (.int .u64 1)).run Tryz.prog U1 = .ok () V1 at ht1
     have oV1 : Old wc V1 := SZ.out _ _ (SZ.out _ _ (KQ.out.trans ho0) kb1) kt1
     have g1 := load_msg bt1 rfl
     have C1 := msg_may_any ({ x with ver := 1 } : Ms) V1 (fine_ver (XF.out V1 oV1))
     rw [BAD.out.1 (by have := HI.out; omega)] at C1
     have H1 := Lib.hid C1
     have B1 := Lib.hid (And.intro oV1 bt1)
     clear C1 oV1 bs1 kb1 kt1 bt1
     go_wp2_with fail
     refine H1.out.mono ?_
     rintro e X1 ⟨rfl, k1⟩
     have N1 := Lib.hid (And.intro (B1.out.1.trans k1) ((k1.block _ (lt_of_heap B1.out.2) (fun f => f)).trans B1.out.2))
     clear k1 H1 B1 l1 hs1 ht1 g1 hW0a hb0 ho0
     have l2 := LX.out X1 N1.out.1
     obtain ⟨U2, hs2, bs2, kb2⟩ := store_msg N1.out.2 x OX.out
     obtain ⟨V2, ht2, bt2, kt2⟩ := store_there bs2 true
     change (storeVar 4 ⟨Wq.heap.size, 3, none⟩ (.bool true)).run Tryz.prog U2 = .ok () V2 at ht2
     have oV2 : Old wc V2 := SZ.out _ _ (SZ.out _ _ N1.out.1 kb2) kt2
     have g2 := load_msg bt2 rfl
     have C2 := msg_may_any ({ x with there := true } : Ms) V2 (fine_there (XF.out V2 oV2) true)
     rw [BAD.out.2.1 (by have := HI.out; omega)] at C2
     have H2 := Lib.hid C2
     have B2 := Lib.hid (And.intro oV2 bt2)
     clear C2 oV2 bs2 kb2 kt2 bt2
     go_wp2_with fail
     refine H2.out.mono ?_
     rintro e X2 ⟨rfl, k2⟩
     have N2 := Lib.hid (And.intro (B2.out.1.trans k2) ((k2.block _ (lt_of_heap B2.out.2) (fun f => f)).trans B2.out.2))
     clear k2 H2 B2 l2 hs2 ht2 g2
     have l3 := LX.out X2 N2.out.1
     obtain ⟨U3, hs3, bs3, kb3⟩ := store_msg N2.out.2 x OX.out
     obtain ⟨V3, ht3, bt3, kt3⟩ := store_from bs3 1
     change (storeVar 22 ⟨Wq.heap.size, 12, none⟩ (.int .u64 1)).run Tryz.prog U3 = .ok () V3 at ht3
     have oV3 : Old wc V3 := SZ.out _ _ (SZ.out _ _ N2.out.1 kb3) kt3
     have g3 := load_msg bt3 rfl
     have C3 := msg_may_any ({ x with frm := 1 } : Ms) V3 (fine_frm (XF.out V3 oV3))
     rw [BAD.out.2.2.1 (by have := HI.out; omega)] at C3
     have H3 := Lib.hid C3
     have B3 := Lib.hid (And.intro oV3 bt3)
     clear C3 oV3 bs3 kb3 kt3 bt3
     go_wp2_with fail
     refine H3.out.mono ?_
     rintro e X3 ⟨rfl, k3⟩
     have N3 := Lib.hid (And.intro (B3.out.1.trans k3) ((k3.block _ (lt_of_heap B3.out.2) (fun f => f)).trans B3.out.2))
     clear k3 H3 B3 l3 hs3 ht3 g3
     have l4 := LX.out X3 N3.out.1
     obtain ⟨U4, hs4, bs4, kb4⟩ := store_msg N3.out.2 x OX.out
     obtain ⟨V4, ht4, bt4, kt4⟩ := store_last bs4 true
     change (storeVar 4 ⟨Wq.heap.size, 17, none⟩ (.bool true)).run Tryz.prog U4 = .ok () V4 at ht4
     have oV4 : Old wc V4 := SZ.out _ _ (SZ.out _ _ N3.out.1 kb4) kt4
     have g4 := load_msg bt4 rfl
     have C4 := msg_may_any ({ x with pg := { x.pg with last := true } } : Ms) V4 (fine_last (XF.out V4 oV4))
     rw [BAD.out.2.2.2.1 (by have := HI.out; omega)] at C4
     have H4 := Lib.hid C4
     have B4 := Lib.hid (And.intro oV4 bt4)
     clear C4 oV4 bs4 kb4 kt4 bt4
     go_wp2_with fail
     refine H4.out.mono ?_
     rintro e X4 ⟨rfl, k4⟩
     have N4 := Lib.hid (And.intro (B4.out.1.trans k4) ((k4.block _ (lt_of_heap B4.out.2) (fun f => f)).trans B4.out.2))
     clear k4 H4 B4 l4 hs4 ht4 g4
     have l5 := LX.out X4 N4.out.1
     obtain ⟨U5, hs5, bs5, kb5⟩ := store_msg N4.out.2 x OX.out
     obtain ⟨V5, ht5, bt5, kt5⟩ := store_time bs5 1
     change (storeVar 22 ⟨Wq.heap.size, 6, none⟩ (.int .u64 1)).run Tryz.prog U5 = .ok () V5 at ht5
     have oV5 : Old wc V5 := SZ.out _ _ (SZ.out _ _ N4.out.1 kb5) kt5
     have l6 := LX.out V5 oV5
     obtain ⟨U6, hs6, bs6, kb6⟩ := store_msg bt5 x OX.out
     obtain ⟨V6, ht6, bt6, kt6⟩ := store_life bs6 1
     change (storeVar 22 ⟨Wq.heap.size, 10, none⟩ (.int .u64 1)).run Tryz.prog U6 = .ok () V6 at ht6
     have oV6 : Old wc V6 := SZ.out _ _ (SZ.out _ _ oV5 kb6) kt6
     have g6 := load_msg bt6 rfl
     have C6 := msg_may_any ({ x with tl := 1 } : Ms) V6 (fine_life (XF.out V6 oV6))
     rw [BAD.out.2.2.2.2.2 (by have := HI.out; omega)] at C6
     have H6 := Lib.hid C6
     have B6 := Lib.hid (And.intro oV6 bt6)
     clear C6 oV6 bs6 kb6 kt6 bt6
     go_wp2_with fail
     refine H6.out.mono ?_
     rintro e X6 ⟨rfl, k6⟩
     have N6 := Lib.hid (And.intro (B6.out.1.trans k6) ((k6.block _ (lt_of_heap B6.out.2) (fun f => f)).trans B6.out.2))
     clear k6 H6 B6 l5 hs5 ht5 l6 hs6 ht6 g6
     have FIN := Lib.hid (N6.out.1)
     go_wp2_with fail
     go_roundw
     case rel => exact ⟨i + 1, by omega, by go_num, FIN.out⟩
     case measure => simp [intOf]; omega
   ·as_aux_lemma =>
     have HI := Lib.hid hi
     have dgt0 : decide ((0 : Int) < (i : Int)) = true := by rw [hi]; rfl
     have dgt0n : decide (0 < i) = true := by rw [hi]; rfl
     have dlt5 : decide ((i : Int) < 5) = true := by rw [hi]; rfl
     have dlt5n : decide (i < 5) = true := by rw [hi]; rfl
     have dlt4 : decide ((i : Int) < 4) = false := by rw [hi]; rfl
     have dlt4n : decide (i < 4) = false := by rw [hi]; rfl
     have e3 : ((i : Int) == 3) = false := by rw [hi]; rfl
     have e3n : (i == 3) = false := by rw [hi]; rfl
     have ne3 : ((i : Int) != 3) = true := by rw [hi]; rfl
     have ne3n : (i != 3) = true := by rw [hi]; rfl
     have e4 : ((i : Int) == 4) = true := by rw [hi]; rfl
     have e4n : (i == 4) = true := by rw [hi]; rfl
     have ne4 : ((i : Int) != 4) = false := by rw [hi]; rfl
     have ne4n : (i != 4) = false := by rw [hi]; rfl
     clear hi
     have l1 := LX.out Wq KQ.out
     obtain ⟨U1, hs1, bs1, kb1⟩ := store_msg hb0 x OX.out
     obtain ⟨V1, ht1, bt1, kt1⟩ := store_ver bs1 1
     change (storeVar 22 ⟨Wq.heap.size, 2, none⟩ (.int .u64 1)).run Tryz.prog U1 = .ok () V1 at ht1
     have oV1 : Old wc V1 := SZ.out _ _ (SZ.out _ _ (KQ.out.trans ho0) kb1) kt1
     have g1 := load_msg bt1 rfl
     have C1 := msg_may_any ({ x with ver := 1 } : Ms) V1 (fine_ver (XF.out V1 oV1))
     rw [BAD.out.1 (by have := HI.out; omega)] at C1
     have H1 := Lib.hid C1
     have B1 := Lib.hid (And.intro oV1 bt1)
     clear C1 oV1 bs1 kb1 kt1 bt1
     go_wp2_with fail
     refine H1.out.mono ?_
     rintro e X1 ⟨rfl, k1⟩
     have N1 := Lib.hid (And.intro (B1.out.1.trans k1) ((k1.block _ (lt_of_heap B1.out.2) (fun f => f)).trans B1.out.2))
     clear k1 H1 B1 l1 hs1 ht1 g1 hW0a hb0 ho0
     have l2 := LX.out X1 N1.out.1
     obtain ⟨U2, hs2, bs2, kb2⟩ := store_msg N1.out.2 x OX.out
     obtain ⟨V2, ht2, bt2, kt2⟩ := store_there bs2 true
     change (storeVar 4 ⟨Wq.heap.size, 3, none⟩ (.bool true)).run Tryz.prog U2 = .ok () V2 at ht2
     have oV2 : Old wc V2 := SZ.out _ _ (SZ.out _ _ N1.out.1 kb2) kt2
     have g2 := load_msg bt2 rfl
     have C2 := msg_may_any ({ x with there := true } : Ms) V2 (fine_there (XF.out V2 oV2) true)
     rw [BAD.out.2.1 (by have := HI.out; omega)] at C2
     have H2 := Lib.hid C2
     have B2 := Lib.hid (And.intro oV2 bt2)
     clear C2 oV2 bs2 kb2 kt2 bt2
     go_wp2_with fail
     refine H2.out.mono ?_
     rintro e X2 ⟨rfl, k2⟩
     have N2 := Lib.hid (And.intro (B2.out.1.trans k2) ((k2.block _ (lt_of_heap B2.out.2) (fun f => f)).trans B2.out.2))
     clear k2 H2 B2 l2 hs2 ht2 g2
     have l3 := LX.out X2 N2.out.1
     obtain ⟨U3, hs3, bs3, kb3⟩ := store_msg N2.out.2 x OX.out
     obtain ⟨V3, ht3, bt3, kt3⟩ := store_from bs3 1
     change (storeVar 22 ⟨Wq.heap.size, 12, none⟩ (.int .u64 1)).run Tryz.prog U3 = .ok () V3 at ht3
     have oV3 : Old wc V3 := SZ.out _ _ (SZ.out _ _ N2.out.1 kb3) kt3
     have l4 := LX.out V3 oV3
     obtain ⟨U4, hs4, bs4, kb4⟩ := store_msg bt3 x OX.out
     obtain ⟨V4, ht4, bt4, kt4⟩ := store_last bs4 true
     change (storeVar 4 ⟨Wq.heap.size, 17, none⟩ (.bool true)).run Tryz.prog U4 = .ok () V4 at ht4
     have oV4 : Old wc V4 := SZ.out _ _ (SZ.out _ _ oV3 kb4) kt4
     have g4 := load_msg bt4 rfl
     have C4 := msg_may_any ({ x with pg := { x.pg with last := true } } : Ms) V4 (fine_last (XF.out V4 oV4))
     rw [BAD.out.2.2.2.1 (by have := HI.out; omega)] at C4
     have H4 := Lib.hid C4
     have B4 := Lib.hid (And.intro oV4 bt4)
     clear C4 oV4 bs4 kb4 kt4 bt4
     go_wp2_with fail
     refine H4.out.mono ?_
     rintro e X4 ⟨rfl, k4⟩
     have N4 := Lib.hid (And.intro (B4.out.1.trans k4) ((k4.block _ (lt_of_heap B4.out.2) (fun f => f)).trans B4.out.2))
     clear k4 H4 B4 l3 hs3 ht3 l4 hs4 ht4 g4
     have l5 := LX.out X4 N4.out.1
     obtain ⟨U5, hs5, bs5, kb5⟩ := store_msg N4.out.2 x OX.out
     obtain ⟨V5, ht5, bt5, kt5⟩ := store_time bs5 1
     change (storeVar 22 ⟨Wq.heap.size, 6, none⟩ (.int .u64 1)).run Tryz.prog U5 = .ok () V5 at ht5
     have oV5 : Old wc V5 := SZ.out _ _ (SZ.out _ _ N4.out.1 kb5) kt5
     have g5 := load_msg bt5 rfl
     have C5 := msg_may_any ({ x with it := { x.it with time := 1 } } : Ms) V5 (fine_time (XF.out V5 oV5))
     rw [BAD.out.2.2.2.2.1 (by have := HI.out; omega)] at C5
     have H5 := Lib.hid C5
     have B5 := Lib.hid (And.intro oV5 bt5)
     clear C5 oV5 bs5 kb5 kt5 bt5
     go_wp2_with fail
     refine H5.out.mono ?_
     rintro e X5 ⟨rfl, k5⟩
     have N5 := Lib.hid (And.intro (B5.out.1.trans k5) ((k5.block _ (lt_of_heap B5.out.2) (fun f => f)).trans B5.out.2))
     clear k5 H5 B5 l5 hs5 ht5 g5
     have l6 := LX.out X5 N5.out.1
     obtain ⟨U6, hs6, bs6, kb6⟩ := store_msg N5.out.2 x OX.out
     obtain ⟨V6, ht6, bt6, kt6⟩ := store_life bs6 1
     change (storeVar 22 ⟨Wq.heap.size, 10, none⟩ (.int .u64 1)).run Tryz.prog U6 = .ok () V6 at ht6
     have oV6 : Old wc V6 := SZ.out _ _ (SZ.out _ _ N5.out.1 kb6) kt6
     have FIN := Lib.hid oV6
     go_wp2_with fail
     go_roundw
     case rel => exact ⟨i + 1, by omega, by go_num, FIN.out⟩
     case measure => simp [intOf]; omega
   ·as_aux_lemma =>
     have HI := Lib.hid hi
     have dgt0 : decide ((0 : Int) < (i : Int)) = true := by rw [hi]; rfl
     have dgt0n : decide (0 < i) = true := by rw [hi]; rfl
     have dlt5 : decide ((i : Int) < 5) = false := by rw [hi]; rfl
     have dlt5n : decide (i < 5) = false := by rw [hi]; rfl
     have dlt4 : decide ((i : Int) < 4) = false := by rw [hi]; rfl
     have dlt4n : decide (i < 4) = false := by rw [hi]; rfl
     have e3 : ((i : Int) == 3) = false := by rw [hi]; rfl
     have e3n : (i == 3) = false := by rw [hi]; rfl
     have ne3 : ((i : Int) != 3) = true := by rw [hi]; rfl
     have ne3n : (i != 3) = true := by rw [hi]; rfl
     have e4 : ((i : Int) == 4) = false := by rw [hi]; rfl
     have e4n : (i == 4) = false := by rw [hi]; rfl
     have ne4 : ((i : Int) != 4) = true := by rw [hi]; rfl
     have ne4n : (i != 4) = true := by rw [hi]; rfl
     clear hi
     have l1 := LX.out Wq KQ.out
     obtain ⟨U1, hs1, bs1, kb1⟩ := store_msg hb0 x OX.out
     obtain ⟨V1, ht1, bt1, kt1⟩ := store_ver bs1 1
     change (storeVar 22 ⟨Wq.heap.size, 2, none⟩ (.int .u64 1)).run Tryz.prog U1 = .ok () V1 at ht1
     have oV1 : Old wc V1 := SZ.out _ _ (SZ.out _ _ (KQ.out.trans ho0) kb1) kt1
     have g1 := load_msg bt1 rfl
     have C1 := msg_may_any ({ x with ver := 1 } : Ms) V1 (fine_ver (XF.out V1 oV1))
     rw [BAD.out.1 (by have := HI.out; omega)] at C1
     have H1 := Lib.hid C1
     have B1 := Lib.hid (And.intro oV1 bt1)
     clear C1 oV1 bs1 kb1 kt1 bt1
     go_wp2_with fail
     refine H1.out.mono ?_
     rintro e X1 ⟨rfl, k1⟩
     have N1 := Lib.hid (And.intro (B1.out.1.trans k1) ((k1.block _ (lt_of_heap B1.out.2) (fun f => f)).trans B1.out.2))
     clear k1 H1 B1 l1 hs1 ht1 g1 hW0a hb0 ho0
     have l2 := LX.out X1 N1.out.1
     obtain ⟨U2, hs2, bs2, kb2⟩ := store_msg N1.out.2 x OX.out
     obtain ⟨V2, ht2, bt2, kt2⟩ := store_there bs2 true
     change (storeVar 4 ⟨Wq.heap.size, 3, none⟩ (.bool true)).run Tryz.prog U2 = .ok () V2 at ht2
     have oV2 : Old wc V2 := SZ.out _ _ (SZ.out _ _ N1.out.1 kb2) kt2
     have g2 := load_msg bt2 rfl
     have C2 := msg_may_any ({ x with there := true } : Ms) V2 (fine_there (XF.out V2 oV2) true)
     rw [BAD.out.2.1 (by have := HI.out; omega)] at C2
     have H2 := Lib.hid C2
     have B2 := Lib.hid (And.intro oV2 bt2)
     clear C2 oV2 bs2 kb2 kt2 bt2
     go_wp2_with fail
     refine H2.out.mono ?_
     rintro e X2 ⟨rfl, k2⟩
     have N2 := Lib.hid (And.intro (B2.out.1.trans k2) ((k2.block _ (lt_of_heap B2.out.2) (fun f => f)).trans B2.out.2))
     clear k2 H2 B2 l2 hs2 ht2 g2
     have l3 := LX.out X2 N2.out.1
     obtain ⟨U3, hs3, bs3, kb3⟩ := store_msg N2.out.2 x OX.out
     obtain ⟨V3, ht3, bt3, kt3⟩ := store_from bs3 1
     change (storeVar 22 ⟨Wq.heap.size, 12, none⟩ (.int .u64 1)).run Tryz.prog U3 = .ok () V3 at ht3
     have oV3 : Old wc V3 := SZ.out _ _ (SZ.out _ _ N2.out.1 kb3) kt3
     have g3 := load_msg bt3 rfl
     have C3 := msg_may_any ({ x with frm := 1 } : Ms) V3 (fine_frm (XF.out V3 oV3))
     rw [BAD.out.2.2.1 (by have := HI.out; omega)] at C3
     have H3 := Lib.hid C3
     have B3 := Lib.hid (And.intro oV3 bt3)
     clear C3 oV3 bs3 kb3 kt3 bt3
     go_wp2_with fail
     refine H3.out.mono ?_
     rintro e X3 ⟨rfl, k3⟩
     have N3 := Lib.hid (And.intro (B3.out.1.trans k3) ((k3.block _ (lt_of_heap B3.out.2) (fun f => f)).trans B3.out.2))
     clear k3 H3 B3 l3 hs3 ht3 g3
     have l4 := LX.out X3 N3.out.1
     obtain ⟨U4, hs4, bs4, kb4⟩ := store_msg N3.out.2 x OX.out
     obtain ⟨V4, ht4, bt4, kt4⟩ := store_last bs4 true
     change (storeVar 4 ⟨Wq.heap.size, 17, none⟩ (.bool true)).run Tryz.prog U4 = .ok () V4 at ht4
     have oV4 : Old wc V4 := SZ.out _ _ (SZ.out _ _ N3.out.1 kb4) kt4
     have l5 := LX.out V4 oV4
     obtain ⟨U5, hs5, bs5, kb5⟩ := store_msg bt4 x OX.out
     obtain ⟨V5, ht5, bt5, kt5⟩ := store_time bs5 1
     change (storeVar 22 ⟨Wq.heap.size, 6, none⟩ (.int .u64 1)).run Tryz.prog U5 = .ok () V5 at ht5
     have oV5 : Old wc V5 := SZ.out _ _ (SZ.out _ _ oV4 kb5) kt5
     have g5 := load_msg bt5 rfl
     have C5 := msg_may_any ({ x with it := { x.it with time := 1 } } : Ms) V5 (fine_time (XF.out V5 oV5))
     rw [BAD.out.2.2.2.2.1 (by have := HI.out; omega)] at C5
     have H5 := Lib.hid C5
     have B5 := Lib.hid (And.intro oV5 bt5)
     clear C5 oV5 bs5 kb5 kt5 bt5
     go_wp2_with fail
     refine H5.out.mono ?_
     rintro e X5 ⟨rfl, k5⟩
     have N5 := Lib.hid (And.intro (B5.out.1.trans k5) ((k5.block _ (lt_of_heap B5.out.2) (fun f => f)).trans B5.out.2))
     clear k5 H5 B5 l4 hs4 ht4 l5 hs5 ht5 g5
     have l6 := LX.out X5 N5.out.1
     obtain ⟨U6, hs6, bs6, kb6⟩ := store_msg N5.out.2 x OX.out
     obtain ⟨V6, ht6, bt6, kt6⟩ := store_life bs6 1
     change (storeVar 22 ⟨Wq.heap.size, 10, none⟩ (.int .u64 1)).run Tryz.prog U6 = .ok () V6 at ht6
     have oV6 : Old wc V6 := SZ.out _ _ (SZ.out _ _ N5.out.1 kb6) kt6
     have FIN := Lib.hid oV6
     go_wp2_with fail
     go_roundw
     case rel => exact ⟨i + 1, by omega, by go_num, FIN.out⟩
     case measure => simp [intOf]; omega
  ·have HK := Lib.hid (K5.out.1.trans hk)
   have PW := parts_of ((HK.out.block _ (lt_of_heap B.out.2) (fun f => f)).trans B.out.2)
   have q1 : (loadVar 3 ⟨w.heap.size, 1, none⟩).run Tryz.prog wr = .ok (.int .i64 m.pub) wr := PW.pub
   have q2 : (loadVar 22 ⟨w.heap.size, 2, none⟩).run Tryz.prog wr = .ok (.int .u64 m.ver) wr := PW.ver
   obtain ⟨zn, hzn⟩ : ∃ z, numOk m.ver = z := ⟨_, rfl⟩
   have GF := Lib.hid (fun W (o : Old w W) => gone_fine (MF.out W o))
   have GM := Lib.hid (show mayM (rGone (lit m p c)).plain = (zh && zn) by rw [mayGone]; show (decide (0 ≤ homeZ m.pub) && numOk m.ver) = _; rw [HZ.out, hzn])
   have CN := fun W => num21_any m.ver W
   rw [hzn] at CN
   have NN := Lib.hid CN
   obtain ⟨Wa, hWa⟩ : ∃ W, wr.alloc (.cells zeroMs.cells.toArray 44) = W := ⟨_, rfl⟩
   have ba : MAt Wa wr.heap.size zeroMs := by rw [← hWa]; exact heap_alloc_new _ _
   have oa : Old wr Wa := by rw [← hWa]; exact (Keeps.refl _ _).alloc _
   obtain ⟨W1, hst1, b1, kb1⟩ := store_msg ba (rGone (lit m p c)) (GF.out wr (B.out.1.trans HK.out)).one
   have o1 : Old wr W1 := oa.then kb1 (fun i hi e => by omega)
   have g1 := load_msg b1 rfl
   obtain ⟨Wb, hWb⟩ : ∃ W, W1.alloc (.cells zeroMs.cells.toArray 44) = W := ⟨_, rfl⟩
   have bb : MAt Wb W1.heap.size zeroMs := by rw [← hWb]; exact heap_alloc_new _ _
   have ob : Old W1 Wb := by rw [← hWb]; exact (Keeps.refl _ _).alloc _
   obtain ⟨W2, hst2, b2, kb2⟩ := store_msg bb (rGone (lit m p c)) (GF.out wr (B.out.1.trans HK.out)).one
   have o2 : Old W1 W2 := ob.then kb2 (fun i hi e => by omega)
   obtain ⟨W3, hW3⟩ : ∃ W, W2.alloc (.cells #[.string ⟨#[97]⟩, .int .i64 1, .int .i64 0, .int .i64 0, .string ⟨#[]⟩, .bool false, .slice none 0 0] 72) = W := ⟨_, rfl⟩
   have o3 : Old W2 W3 := by rw [← hW3]; exact (Keeps.refl _ _).alloc _
   have c3 : Cons W3 (.slice (some ⟨W2.heap.size, 0, none⟩) 1 1) [hasA (.slice none 0 0)] := by
    rw [← hW3]
    exact ⟨SeesR.new (k := 7) (enc := Con.cells) W2 _ (0, 0) [hasA (.slice none 0 0)] _ (by simp [Con.cells]) (fun _ => rfl) (by unfold maxLen; simp), fun x hx => by
     obtain rfl : x = hasA (.slice none 0 0) := by simpa using hx
     exact ⟨SeesR.nil _, ⟨by simp [ByteArray.size], by simp, by simp⟩, fun _ h => (by cases h), fun h => (by cases h)⟩⟩
   have z3 : W2.heap.size < W3.heap.size := by rw [← hW3]; simp
   have b3 := (o3.block _ (lt_of_heap b2) (fun f => f)).trans b2
   obtain ⟨W4, hst4, b4, kb4⟩ := store_pred b3 (some ⟨W2.heap.size, 0, none⟩) 1 1 [hasA (.slice none 0 0)]
   have hz12 : W1.heap.size < W2.heap.size := lt_of_heap b2
   have o13 : Old W1 W3 := o2.trans o3
   have o14 : Old W1 W4 := o13.then kb4 (fun i hi e => by omega)
   have orr : Old wr W4 := o1.trans o14
   have o04 : Old W0 W4 := HK.out.trans orr
   have b14 := (o14.block _ (lt_of_heap b1) (fun f => f)).trans b1
   have c4 : Cons W4 (.slice (some ⟨W2.heap.size, 0, none⟩) 1 1) [hasA (.slice none 0 0)] := ⟨c3.1.keeps kb4 (fun b hb => by simp [Value.ownBlock] at hb; omega), fun x hx => by
    obtain rfl : x = hasA (.slice none 0 0) := by simpa using hx
    exact ⟨SeesR.nil _, ⟨by simp [ByteArray.size], by simp, by simp⟩, fun _ h => (by cases h), fun h => (by cases h)⟩⟩
   have fW : ({ rGone (lit m p c) with pv := .slice (some ⟨W2.heap.size, 0, none⟩) 1 1, ps := [hasA (.slice none 0 0)] } : Ms).fine W4 := by
    have g := GF.out W4 (B.out.1.trans o04)
    exact ⟨⟨c4, fun _ b hb => by have := kb4.size; simp [Value.ownBlock] at hb; omega⟩, g.2⟩
   have g10 := load_msg b14 rfl
   have C4 := msg_may_any (rGone (lit m p c)) W4 (GF.out W4 (B.out.1.trans o04))
   rw [GM.out] at C4
   have H4 := Lib.hid C4
   have B4 := Lib.hid (And.intro b4 (And.intro fW o04))
   change wr.alloc (.cells #[.int .i64 0, .int .i64 0, .int .u64 0, .bool false, .slice none 0 0, .int .u64 0, .int .u64 0, .string ⟨#[]⟩, .slice none 0 0, .int .i64 0, .int .u64 0, .int .u64 0, .int .u64 0, .int .u64 0, .int .u64 0, .slice none 0 0, .slice none 0 0, .bool false] 44) = Wa at hWa
   change W1.alloc (.cells #[.int .i64 0, .int .i64 0, .int .u64 0, .bool false, .slice none 0 0, .int .u64 0, .int .u64 0, .string ⟨#[]⟩, .slice none 0 0, .int .i64 0, .int .u64 0, .int .u64 0, .int .u64 0, .int .u64 0, .int .u64 0, .slice none 0 0, .slice none 0 0, .bool false] 44) = Wb at hWb
   change (storeVar 44 ⟨wr.heap.size, 0, none⟩ (.agg #[.int .i64 1, .int .i64 m.pub, .int .u64 m.ver, .bool false, .slice none 0 0, .int .u64 0, .int .u64 0, .string ⟨#[]⟩, .slice none 0 0, .int .i64 0, .int .u64 0, .int .u64 0, .int .u64 0, .int .u64 0, .int .u64 0, .slice none 0 0, .slice none 0 0, .bool false])).run Tryz.prog Wa = .ok () W1 at hst1
   have CZ := Lib.hid (fun W => (mayZero ▸ msg_may_any zeroMs W (zero_fine W) : Calls Tryz.prog 15 #[.agg zeroMs.cells.toArray] W fun e w' => e = .returned (.bool false) ∧ Old W w'))
   have CV := Lib.hid (fun W => (maySeven ▸ msg_may_any { zeroMs with kind := 7 } W (seven_fine W) : Calls Tryz.prog 15 #[.agg ({ zeroMs with kind := 7 } : Ms).cells.toArray] W fun e w' => e = .returned (.bool false) ∧ Old W w'))
   clear PW GF GM CN hzn ba oa b1 kb1 o1 bb ob b2 kb2 o2 o3 c3 z3 b3 b4 kb4 hz12 o13 o14 orr b14 c4 fW C4 o04
   go_wp2_with fail
   refine H4.out.mono ?_
   rintro e X5 ⟨rfl, k5⟩
   have o05 := B4.out.2.2.trans k5
   have q3 : (loadVar 22 ⟨w.heap.size, 2, none⟩).run Tryz.prog X5 = .ok (.int .u64 m.ver) X5 := (parts_of ((o05.block _ (lt_of_heap B.out.2) (fun f => f)).trans B.out.2)).ver
   have g11 := load_msg ((k5.block _ (lt_of_heap B4.out.1) (fun f => f)).trans B4.out.1) rfl
   have C5 := msg_may_any _ X5 (B4.out.2.1.old k5)
   rw [mayWith] at C5
   have C5 := Lib.hid C5
   have K5x := Lib.hid (B.out.1.trans o05)
   clear k5 o05 q1 q2 hWa hst1 g1 hWb hst2 hW3 hst4 g10 H4
   cases zh
   ·go_wp2_with fail
    refine (C5.out).mono ?_
    rintro e X6 ⟨rfl, k6⟩
    have K6 := Lib.hid (K5x.out.trans k6)
    clear k6 g11 C5
    go_wp2_with fail
    refine (CZ.out _).mono ?_
    rintro e X7 ⟨rfl, k7⟩
    have K7 := Lib.hid (K6.out.trans k7)
    clear k7
    go_wp2_with fail
    refine (CV.out _).mono ?_
    rintro e X8 ⟨rfl, k8⟩
    have K8 := Lib.hid (K7.out.trans k8)
    clear k8
    go_wp2_with fail
    refine (mwakes_any _).mono ?_
    rintro e X9 ⟨rfl, k9⟩
    have K9 := Lib.hid (K8.out.trans k9)
    clear k9
    go_wp2_with fail
    go_ret
    exact ⟨rfl, K9.out⟩
   ·go_wp2_with fail
    refine (NN.out _).mono ?_
    rintro e Xn ⟨rfl, rfl⟩
    cases zn
    ·go_wp2_with fail
     refine (C5.out).mono ?_
     rintro e X6 ⟨rfl, k6⟩
     have K6 := Lib.hid (K5x.out.trans k6)
     clear k6 g11 C5
     go_wp2_with fail
     refine (CZ.out _).mono ?_
     rintro e X7 ⟨rfl, k7⟩
     have K7 := Lib.hid (K6.out.trans k7)
     clear k7
     go_wp2_with fail
     refine (CV.out _).mono ?_
     rintro e X8 ⟨rfl, k8⟩
     have K8 := Lib.hid (K7.out.trans k8)
     clear k8
     go_wp2_with fail
     refine (mwakes_any _).mono ?_
     rintro e X9 ⟨rfl, k9⟩
     have K9 := Lib.hid (K8.out.trans k9)
     clear k9
     go_wp2_with fail
     go_ret
     exact ⟨rfl, K9.out⟩
    ·go_wp2_with fail
     refine (C5.out).mono ?_
     rintro e X6 ⟨rfl, k6⟩
     have K6 := Lib.hid (K5x.out.trans k6)
     clear k6 g11 C5
     go_wp2_with fail
     refine (CZ.out _).mono ?_
     rintro e X7 ⟨rfl, k7⟩
     have K7 := Lib.hid (K6.out.trans k7)
     clear k7
     go_wp2_with fail
     refine (CV.out _).mono ?_
     rintro e X8 ⟨rfl, k8⟩
     have K8 := Lib.hid (K7.out.trans k8)
     clear k8
     go_wp2_with fail
     refine (mwakes_any _).mono ?_
     rintro e X9 ⟨rfl, k9⟩
     have K9 := Lib.hid (K8.out.trans k9)
     clear k9
     go_wp2_with fail
     go_ret
     exact ⟨rfl, K9.out⟩
theorem mmay_any (m : Ms) (w : World) (h : m.fine w) : Calls Tryz.prog 6 #[.agg m.cells.toArray] w fun e w' => e = .returned (.bool true) ∧ Old w w' := by
 obtain ⟨p, c, e, _, _⟩ := h.1.1.1.len
 have hm : m = lit m p c := by
  obtain ⟨kind, pub, ver, there, pv, ps, it, tb, tl, tc, frm, pg⟩ := m
  simp only at e
  subst e
  rfl
 rw [hm] at h ⊢
 exact mmay_lit m p c w h
end Go.Proofs.YtpjpimahnnekkaaGreat
