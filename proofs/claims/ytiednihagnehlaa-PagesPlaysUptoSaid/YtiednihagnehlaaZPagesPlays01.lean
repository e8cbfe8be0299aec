/- DERIVED. Chapter 21, the document's writer: a number, a text. · DERIVED. Chapter 21, the document's Same. · DERIVED. Chapter 21, the document's Bare. (gen_db.py wrote it) · DERIVED. The plain law of MsgMay. · DERIVED. Chapter 21: what the document's May tells is what the program's does. -/
import Derived.Test.YtiednihagnehlaaY08
import Derived.Test.YtiednihagnehlaaY18
import Derived.Test.YtiednihagnehlaaY20
import Derived.Test.YtiednihagnehlaaY10
import Derived.Test.YtiednihagnehlaaY19
namespace Go.Proofs.Ytiednihagnehlaa
open Go.RowKit

set_option maxRecDepth 100000 in
theorem ref21_home_any (p : Int) (w : World) (h : -9223372036854775808 ≤ p ∧ p ≤ 9223372036854775807) : Calls Try.prog 56 #[.int .i64 p] w fun e w' => e = .returned (.int .i64 (homeZ p)) ∧ w = w' := by
 by_cases h1 : p < 0
 ·have t1 : decide (p < 0) = true := decide_eq_true h1
  have e : homeZ p = -1 := by unfold homeZ; rw [if_neg (by omega)]
  rw [e]
  clear h1 e
  go_enter Try.func56, Try.ntmps56
  go_wp2_with fail
  go_ret
  exact ⟨rfl, rfl⟩
 ·have t1 : decide (p < 0) = false := decide_eq_false h1
  by_cases h2 : 256 ≤ p
  ·have t2 : decide (255 < p) = true := by simp; omega
   have e : homeZ p = -1 := by unfold homeZ; rw [if_neg (by omega)]
   rw [e]
   clear h1 h2 e
   go_enter Try.func56, Try.ntmps56
   go_wp2_with fail
   go_ret
   exact ⟨rfl, rfl⟩
  ·have t2 : decide (255 < p) = false := by simp; omega
   have e : homeZ p = p / 4 := by unfold homeZ; rw [if_pos (by omega)]
   obtain ⟨n, rfl⟩ : ∃ n : Nat, p = n := ⟨p.toNat, by omega⟩
   have q : Int.tdiv (n : Int) 4 = ((n / 4 : Nat) : Int) := by rw [Int.tdiv_eq_ediv_of_nonneg (by omega)]; omega
   have q2 : IntKind.i64.wrap ((n / 4 : Nat) : Int) = ((n / 4 : Nat) : Int) := by rw [IntKind.wrap_i64]; omega
   rw [e]
   clear h1 h2 e
   go_enter Try.func56, Try.ntmps56
   go_wp2_with fail
   go_ret
   exact ⟨by simp, rfl⟩
end Go.Proofs.Ytiednihagnehlaa

namespace Go.Proofs.Ytiednihagnehlaa
open Go.RowKit Go.Great

attribute [-go_sem] loadVar storeVar
theorem load_cell1 {W : World} {a : Addr} {v : Value} (hc : W.cell? a = some v) : (load a).run Try.prog W = .ok v W := by
 show Sem.run Try.prog (.load .plain a .pure) W = _
 unfold Sem.run
 simp only [hc]
 rfl
/-- the parts of a message that lies in a block of the document's type -/
structure PartsR (w : World) (b : Nat) (m : Ms) : Prop where
 kind : (loadVar 3 ⟨b, 0, none⟩).run Try.prog w = .ok (.int .i64 m.kind) w
 pub : (loadVar 3 ⟨b, 1, none⟩).run Try.prog w = .ok (.int .i64 m.pub) w
 ver : (loadVar 28 ⟨b, 2, none⟩).run Try.prog w = .ok (.int .u64 m.ver) w
 there : (loadVar 4 ⟨b, 3, none⟩).run Try.prog w = .ok (.bool m.there) w
 pred : (loadVar 30 ⟨b, 4, none⟩).run Try.prog w = .ok m.pv w
 item : (loadVar 35 ⟨b, 5, none⟩).run Try.prog w = .ok (.agg m.it.cells.toArray) w
 tok : (loadVar 45 ⟨b, 9, none⟩).run Try.prog w = .ok (.agg #[.int .i64 m.tb, .int .u64 m.tl, .int .u64 m.tc]) w
 tb : (loadVar 3 ⟨b, 9, none⟩).run Try.prog w = .ok (.int .i64 m.tb) w
 tl : (loadVar 28 ⟨b, 10, none⟩).run Try.prog w = .ok (.int .u64 m.tl) w
 tc : (loadVar 28 ⟨b, 11, none⟩).run Try.prog w = .ok (.int .u64 m.tc) w
 frm : (loadVar 28 ⟨b, 12, none⟩).run Try.prog w = .ok (.int .u64 m.frm) w
 page : (loadVar 41 ⟨b, 13, none⟩).run Try.prog w = .ok (.agg m.pg.cells.toArray) w
theorem partsR {w : World} {b : Nat} {m : Ms} (h : RAt w b m) : PartsR w b m := by
 have g := blkM h
 have q1 : ∀ a W, (loadVar 3 a).run Try.prog W = (load a).run Try.prog W := fun _ _ => by kernel_rfl
 have q2 : ∀ a W, (loadVar 28 a).run Try.prog W = (load a).run Try.prog W := fun _ _ => by kernel_rfl
 have q3 : ∀ a W, (loadVar 4 a).run Try.prog W = (load a).run Try.prog W := fun _ _ => by kernel_rfl
 have q4 : ∀ a W, (loadVar 30 a).run Try.prog W = (load a).run Try.prog W := fun _ _ => by kernel_rfl
 refine ⟨?_, ?_, ?_, ?_, ?_, ?_, ?_, ?_, ?_, ?_, ?_, ?_⟩
 ·rw [q1]; exact load_cell1 g.1
 ·rw [q1]; exact load_cell1 g.2.1
 ·rw [q2]; exact load_cell1 g.2.2.1
 ·rw [q3]; exact load_cell1 g.2.2.2.1
 ·rw [q4]; exact load_cell1 g.2.2.2.2.1
 ·exact load_sub (cs := m.it.cells.toArray) (fun j v hv => by
   rcases j with _ | _ | _ | _ | _ | j <;> simp [It.cells] at hv
   all_goals (subst hv; first | exact g.2.2.2.2.2.1 | exact g.2.2.2.2.2.2.1 | exact g.2.2.2.2.2.2.2.1 | exact g.2.2.2.2.2.2.2.2.1)) Try.underlying35 rfl (by kernel_rfl)
 ·exact load_sub (fun j v hv => by
   rcases j with _ | _ | _ | _ | _ | j <;> simp at hv
   all_goals (subst hv; first | exact g.2.2.2.2.2.2.2.2.2.1 | exact g.2.2.2.2.2.2.2.2.2.2.1 | exact g.2.2.2.2.2.2.2.2.2.2.2.1)) Try.underlying45 rfl (by kernel_rfl)
 ·rw [q1]; exact load_cell1 g.2.2.2.2.2.2.2.2.2.1
 ·rw [q2]; exact load_cell1 g.2.2.2.2.2.2.2.2.2.2.1
 ·rw [q2]; exact load_cell1 g.2.2.2.2.2.2.2.2.2.2.2.1
 ·rw [q2]; exact load_cell1 g.2.2.2.2.2.2.2.2.2.2.2.2.1
 ·exact load_sub (cs := m.pg.cells.toArray) (fun j v hv => by
   rcases j with _ | _ | _ | _ | _ | j <;> simp [Pg.cells] at hv
   all_goals (subst hv; first | exact g.2.2.2.2.2.2.2.2.2.2.2.2.2.1 | exact g.2.2.2.2.2.2.2.2.2.2.2.2.2.2.1 | exact g.2.2.2.2.2.2.2.2.2.2.2.2.2.2.2.1 | exact g.2.2.2.2.2.2.2.2.2.2.2.2.2.2.2.2.1 | exact g.2.2.2.2.2.2.2.2.2.2.2.2.2.2.2.2.2)) Try.underlying41 rfl (by kernel_rfl)
theorem eq_tokR_in (m : Nat) (F3 : ∀ x y W, (Op.equalIn m 3 (.int .i64 x) (.int .i64 y)).run Try.prog W = .ok (x == y) W) (F : ∀ x y W, (Op.equalIn m 28 (.int .u64 x) (.int .u64 y)).run Try.prog W = .ok (x == y) W) (a a' b b' c c' : Int) (W : World) :
  (Op.equalIn (m+1) 45 (.agg #[.int .i64 a, .int .u64 b, .int .u64 c]) (.agg #[.int .i64 a', .int .u64 b', .int .u64 c'])).run Try.prog W = .ok (a == a' && (b == b' && c == c')) W := by
 have hst : Try.prog.stoodInHeld 45 = false := by kernel_rfl
 unfold Op.equalIn
 cases h1 : (a == a')
 ·simp [go_sem, hst, F3, h1]
 ·cases h2 : (b == b')
  ·simp [go_sem, hst, F3, F, h1, h2]
  ·cases h3 : (c == c') <;> simp [go_sem, hst, F3, F, h1, h2, h3]
theorem neq_tokR (a a' b b' c c' : Int) (W : World) :
  (binOp .neq 45 (.agg #[.int .i64 a, .int .u64 b, .int .u64 c]) (.agg #[.int .i64 a', .int .u64 b', .int .u64 c'])).run Try.prog W = .ok (.bool (!(a == a' && (b == b' && c == c')))) W := by
 have h := eq_tokR_in 9999 (eq_int 9998) (eq_u64 9998) a a' b b' c c' W
 simp [binOp, go_sem, Op.equal, Op.maxDepth, h]

set_option maxRecDepth 100000 in
set_option maxHeartbeats 2000000 in
theorem ref21_same_any (m m' : Ms) (w : World) (h : m.fine w) (h' : m'.fine w) : Calls Try.prog 20 #[.agg m.cells.toArray, .agg m'.cells.toArray] w fun e w' => e = .returned (.bool (sameM m.plain m'.plain)) ∧ Old w w' := by
 have CP := fun W (k : Old w W) => same_pred_any m.pv m'.pv m.ps m'.ps W ((h.1.1.old k).1) ((h'.1.1.old k).1) (fun x hx => ((h.1.1.old k).2 x hx).1) (fun x hx => ((h'.1.1.old k).2 x hx).1)
 have CI := fun W (k : Old w W) => same_item_any m.it m'.it W (It.fine.old h.2.1 k) (It.fine.old h'.2.1 k)
 have CG := fun W (k : Old w W) => same_page_any m.pg m'.pg W (Pg.fine.old h.2.2.1 k) (Pg.fine.old h'.2.2.1 k)
 unfold sameM Ms.plain
 simp only
 generalize sameP (m.ps.map Con.plain) (m'.ps.map Con.plain) = z5 at CP ⊢
 generalize sameI m.it.plain m'.it.plain = z6 at CI ⊢
 generalize sameG m.pg.plain m'.pg.plain = z9 at CG ⊢
 obtain ⟨z1, t1⟩ : ∃ b, (m.kind == m'.kind) = b := ⟨_, rfl⟩
 obtain ⟨z2, t2⟩ : ∃ b, (m.pub == m'.pub) = b := ⟨_, rfl⟩
 obtain ⟨z3, t3⟩ : ∃ b, (m.ver == m'.ver) = b := ⟨_, rfl⟩
 obtain ⟨z4, t4⟩ : ∃ b, (m.there == m'.there) = b := ⟨_, rfl⟩
 obtain ⟨z7, t7⟩ : ∃ b, (m.tb == m'.tb && (m.tl == m'.tl && m.tc == m'.tc)) = b := ⟨_, rfl⟩
 obtain ⟨z8, t8⟩ : ∃ b, (m.frm == m'.frm) = b := ⟨_, rfl⟩
 have natEq : ∀ a b : Nat, ((a : Int) == (b : Int)) = (a == b) := fun a b => by rw [Bool.eq_iff_iff, beq_iff_eq, beq_iff_eq]; omega
 have v1 : (m.kind != m'.kind) = !z1 := by rw [← t1]; rfl
 have v2 : (m.pub != m'.pub) = !z2 := by rw [← t2]; rfl
 have v3 : ((m.ver : Int) != (m'.ver : Int)) = !z3 := by rw [← t3, ← natEq]; rfl
 have v3n : (m.ver != m'.ver) = !z3 := by rw [← t3]; rfl
 have v4 : (m.there != m'.there) = !z4 := by rw [← t4]; rfl
 have v8 : ((m.frm : Int) != (m'.frm : Int)) = !z8 := by rw [← t8, ← natEq]; rfl
 have v8n : (m.frm != m'.frm) = !z8 := by rw [← t8]; rfl
 have u3 : ((m.ver : Int) == (m'.ver : Int)) = z3 := by rw [natEq, t3]
 have u8 : ((m.frm : Int) == (m'.frm : Int)) = z8 := by rw [natEq, t8]
 have te : ∀ W, (binOp .neq 45 (.agg #[.int .i64 m.tb, .int .u64 m.tl, .int .u64 m.tc]) (.agg #[.int .i64 m'.tb, .int .u64 m'.tl, .int .u64 m'.tc])).run Try.prog W = .ok (.bool (!z7)) W := fun W => by rw [neq_tokR, natEq, natEq, t7]
 rw [t1, t2, t3, t4, t7, t8]
 obtain ⟨W0, hW0⟩ : ∃ W0, (w.alloc (.cells m.cells.toArray 60)).alloc (.cells m'.cells.toArray 60) = W0 := ⟨_, rfl⟩
 have k0 : Old w W0 := by rw [← hW0]; exact ((Keeps.refl _ _).alloc _).alloc _
 obtain ⟨b0, b1⟩ := two_blocks w (.cells m.cells.toArray 60) (.cells m'.cells.toArray 60)
 rw [hW0] at b0 b1
 obtain ⟨a1, a2, a3, a4, a5, a6, a7, _, _, _, a8, a9⟩ := partsR b0
 obtain ⟨d1, d2, d3, d4, d5, d6, d7, _, _, _, d8, d9⟩ := partsR b1
 have B := Lib.hid (And.intro k0 (And.intro b0 b1))
 have HC := Lib.hid (And.intro CP (And.intro CI CG))
 clear k0 b0 b1 CP CI CG h h' t7 natEq
 cases z1
 ·go_enter Try.func20, Try.ntmps20
  go_wp2_with fail
  go_ret
  exact ⟨rfl, B.out.1⟩
 cases z2
 ·go_enter Try.func20, Try.ntmps20
  go_wp2_with fail
  go_ret
  exact ⟨rfl, B.out.1⟩
 cases z3
 ·go_enter Try.func20, Try.ntmps20
  go_wp2_with fail
  go_ret
  exact ⟨rfl, B.out.1⟩
 cases z4
 ·go_enter Try.func20, Try.ntmps20
  go_wp2_with fail
  go_ret
  exact ⟨rfl, B.out.1⟩
 cases z7
 ·go_enter Try.func20, Try.ntmps20
  go_wp2_with fail
  go_ret
  exact ⟨by simp, B.out.1⟩
 cases z8
 ·go_enter Try.func20, Try.ntmps20
  go_wp2_with fail
  go_ret
  exact ⟨by simp, B.out.1⟩
 go_enter Try.func20, Try.ntmps20
 go_wp2_with fail
 refine (HC.out.1 _ B.out.1).mono ?_
 rintro e w1 ⟨rfl, k1⟩
 have p1 := (partsR ((k1.block _ (lt_of_heap B.out.2.1) (fun f => f)).trans B.out.2.1)).item
 have q1 := (partsR ((k1.block _ (lt_of_heap B.out.2.2) (fun f => f)).trans B.out.2.2)).item
 have K1 := Lib.hid k1
 clear k1 a1 a2 a3 a4 a5 a6 a7 a8 a9 d1 d2 d3 d4 d5 d6 d7 d8 d9
 cases z5
 ·go_wp2_with fail
  go_ret
  exact ⟨by simp, B.out.1.trans K1.out⟩
 go_wp2_with fail
 refine (HC.out.2.1 _ (B.out.1.trans K1.out)).mono ?_
 rintro e w2 ⟨rfl, k2⟩
 have kk := K1.out.trans k2
 have p2 := (partsR ((kk.block _ (lt_of_heap B.out.2.1) (fun f => f)).trans B.out.2.1)).page
 have q2 := (partsR ((kk.block _ (lt_of_heap B.out.2.2) (fun f => f)).trans B.out.2.2)).page
 have K2 := Lib.hid kk
 clear k2 kk p1 q1
 cases z6
 ·go_wp2_with fail
  go_ret
  exact ⟨by simp, B.out.1.trans K2.out⟩
 go_wp2_with fail
 refine (HC.out.2.2 _ (B.out.1.trans K2.out)).mono ?_
 rintro e w3 ⟨rfl, k3⟩
 have K3 := Lib.hid (K2.out.trans k3)
 clear k3 p2 q2
 go_wp2_with fail
 go_ret
 exact ⟨by simp, B.out.1.trans K3.out⟩
end Go.Proofs.Ytiednihagnehlaa

namespace Go.Proofs.Ytiednihagnehlaa
open Go.RowKit Go.Great

attribute [-go_sem] loadVar storeVar
/-- a message of which only what its Kind tells is left -/
def bareR (m : Ms) : Ms :=
 if m.kind = 1 then (if m.there = true then { zeroMs with kind := 1, pub := m.pub, ver := m.ver, there := true, pv := m.pv, ps := m.ps } else { zeroMs with kind := 1, pub := m.pub, ver := m.ver })
 else if m.kind = 2 then { zeroMs with kind := 2, pv := m.pv, ps := m.ps } else if m.kind = 3 then { zeroMs with kind := 3, pv := m.pv, ps := m.ps }
 else if m.kind = 4 then { zeroMs with kind := 4, pub := m.pub, it := m.it } else if m.kind = 5 then { zeroMs with kind := 5, pub := m.pub, tb := m.tb, tl := m.tl, tc := m.tc, pv := m.pv, ps := m.ps, frm := m.frm }
 else if m.kind = 6 then { zeroMs with kind := 6, pub := m.pub, tb := m.tb, tl := m.tl, tc := m.tc, pg := m.pg } else zeroMs
theorem bareR_fine {m : Ms} {w : World} (h : m.fine w) : (bareR m).fine w := by
 have hz := (MsO.zero w 0).fine
 obtain ⟨h1, h2, h3, ⟨k1, k2, k3⟩, h5, h6, h7, h8⟩ := h
 have q : ∀ k : Int, 0 ≤ k → k ≤ 6 → I64 k := fun k a b => ⟨by omega, by omega⟩
 have u : U64 0 := by unfold U64; decide
 unfold bareR
 repeat' split
 ·exact ⟨h1, hz.2.1, hz.2.2.1, ⟨q 1 (by decide) (by decide), k2, q 0 (by decide) (by decide)⟩, h5, u, u, u⟩
 ·exact ⟨hz.1, hz.2.1, hz.2.2.1, ⟨q 1 (by decide) (by decide), k2, q 0 (by decide) (by decide)⟩, h5, u, u, u⟩
 ·exact ⟨h1, hz.2.1, hz.2.2.1, ⟨q 2 (by decide) (by decide), q 0 (by decide) (by decide), q 0 (by decide) (by decide)⟩, u, u, u, u⟩
 ·exact ⟨h1, hz.2.1, hz.2.2.1, ⟨q 3 (by decide) (by decide), q 0 (by decide) (by decide), q 0 (by decide) (by decide)⟩, u, u, u, u⟩
 ·exact ⟨hz.1, h2, hz.2.2.1, ⟨q 4 (by decide) (by decide), k2, q 0 (by decide) (by decide)⟩, u, u, u, u⟩
 ·exact ⟨h1, hz.2.1, hz.2.2.1, ⟨q 5 (by decide) (by decide), k2, k3⟩, u, h6, h7, h8⟩
 ·exact ⟨hz.1, hz.2.1, h3, ⟨q 6 (by decide) (by decide), k2, k3⟩, u, h6, h7, u⟩
 ·exact hz

set_option maxRecDepth 100000 in
set_option maxHeartbeats 4000000 in
theorem ref21_bare_any (m : Ms) (w : World) (h : m.fine w) : Calls Try.prog 55 #[.agg m.cells.toArray] w fun e w' => e = .returned (.agg (bareR m).cells.toArray) ∧ Old w w' := by
 have hone := (bareR_fine h).one
 obtain ⟨kind, pub, ver, there, pv, ps, ⟨n, tm, key, av, es⟩, tb, tl, tc, frm, ⟨fr, en, iv, its, gv, gs, last⟩⟩ := m
 obtain ⟨p1, c1, e1, _, r1⟩ := h.1.1.1.len
 obtain ⟨p2, c2, e2, _, _⟩ := h.2.1.1.len
 obtain ⟨p3, c3, e3, _, _⟩ := h.2.2.1.1.1.len
 obtain ⟨p4, c4, e4, _, _⟩ := h.2.2.1.1.2.2.len
 simp only at e1 e2 e3 e4
 subst e1 e2 e3 e4
 clear h r1
 obtain ⟨m, hm⟩ : ∃ m : Ms, m = ⟨kind, pub, ver, there, .slice p1 ps.length c1, ps, ⟨n, tm, key, .slice p2 es.length c2, es⟩, tb, tl, tc, frm, ⟨fr, en, .slice p3 its.length c3, its, .slice p4 gs.length c4, gs, last⟩⟩ := ⟨_, rfl⟩
 rw [← hm] at hone ⊢
 have hmc : m.cells.toArray = #[.int .i64 kind, .int .i64 pub, .int .u64 ver, .bool there, .slice p1 ps.length c1, .int .u64 n, .int .u64 tm, .string key, .slice p2 es.length c2, .int .i64 tb, .int .u64 tl, .int .u64 tc, .int .u64 frm, .int .u64 fr, .int .u64 en, .slice p3 its.length c3, .slice p4 gs.length c4, .bool last] := by rw [hm]; rfl
 obtain ⟨W0, hW0⟩ : ∃ W0, (w.alloc (.cells m.cells.toArray 60)).alloc (.cells zeroMs.cells.toArray 60) = W0 := ⟨_, rfl⟩
 have k0 : Old w W0 := by rw [← hW0]; exact ((Keeps.refl _ _).alloc _).alloc _
 obtain ⟨b0, b1⟩ := two_blocks w (.cells m.cells.toArray 60) (.cells zeroMs.cells.toArray 60)
 rw [hW0] at b0 b1
 obtain ⟨W1, hst, b2, kb⟩ := store_msgR b1 (bareR m) hone
 have k1 : Old w W1 := k0.then kb (fun i hi e => by omega)
 have gl := load_whole b2 (by simp [Ms.cells]) Try.underlying60 (by kernel_rfl)
 obtain ⟨a1, a2, a3, a4, a5, a6, a7, _, _, _, a8, a9⟩ := partsR b0
 rw [hmc] at hW0 ⊢
 have K := Lib.hid (And.intro k1 gl)
 have HM := Lib.hid hm
 rw [hm] at a1 a2 a3 a4 a5 a6 a7 a8 a9
 simp only [It.cells, Pg.cells] at a1 a2 a3 a4 a5 a6 a7 a8 a9
 change (w.alloc (.cells #[.int .i64 kind, .int .i64 pub, .int .u64 ver, .bool there, .slice p1 ps.length c1, .int .u64 n, .int .u64 tm, .string key, .slice p2 es.length c2, .int .i64 tb, .int .u64 tl, .int .u64 tc, .int .u64 frm, .int .u64 fr, .int .u64 en, .slice p3 its.length c3, .slice p4 gs.length c4, .bool last] 60)).alloc (.cells #[.int .i64 0, .int .i64 0, .int .u64 0, .bool false, .slice none 0 0, .int .u64 0, .int .u64 0, .string ⟨#[]⟩, .slice none 0 0, .int .i64 0, .int .u64 0, .int .u64 0, .int .u64 0, .int .u64 0, .int .u64 0, .slice none 0 0, .slice none 0 0, .bool false] 60) = W0 at hW0
 clear b0 b1 k0 k1 kb gl hmc b2 hone
 by_cases h1 : kind = 1
 ·subst h1
  cases there
  ·have hb : (bareR m).cells.toArray = #[.int .i64 1, .int .i64 pub, .int .u64 ver, .bool false, .slice none 0 0, .int .u64 0, .int .u64 0, .string ⟨#[]⟩, .slice none 0 0, .int .i64 0, .int .u64 0, .int .u64 0, .int .u64 0, .int .u64 0, .int .u64 0, .slice none 0 0, .slice none 0 0, .bool false] := by rw [hm]; rfl
   rw [hb] at hst K ⊢
   clear hb hm HM
   go_enter Try.func55, Try.ntmps55
   go_wp2_with fail
   have gl := K.out.2
   exact bodyPost_ret (by simp [results, Try.results55, go_sem, gl]) rfl ⟨rfl, K.out.1⟩
  ·have hb : (bareR m).cells.toArray = #[.int .i64 1, .int .i64 pub, .int .u64 ver, .bool true, .slice p1 ps.length c1, .int .u64 0, .int .u64 0, .string ⟨#[]⟩, .slice none 0 0, .int .i64 0, .int .u64 0, .int .u64 0, .int .u64 0, .int .u64 0, .int .u64 0, .slice none 0 0, .slice none 0 0, .bool false] := by rw [hm]; rfl
   rw [hb] at hst K ⊢
   clear hb hm HM
   go_enter Try.func55, Try.ntmps55
   go_wp2_with fail
   have gl := K.out.2
   exact bodyPost_ret (by simp [results, Try.results55, go_sem, gl]) rfl ⟨rfl, K.out.1⟩
 by_cases h2 : kind = 2
 ·subst h2
  have hb : (bareR m).cells.toArray = #[.int .i64 2, .int .i64 0, .int .u64 0, .bool false, .slice p1 ps.length c1, .int .u64 0, .int .u64 0, .string ⟨#[]⟩, .slice none 0 0, .int .i64 0, .int .u64 0, .int .u64 0, .int .u64 0, .int .u64 0, .int .u64 0, .slice none 0 0, .slice none 0 0, .bool false] := by rw [hm]; rfl
  rw [hb] at hst K ⊢
  clear hb hm HM
  go_enter Try.func55, Try.ntmps55
  go_wp2_with fail
  have gl := K.out.2
  exact bodyPost_ret (by simp [results, Try.results55, go_sem, gl]) rfl ⟨rfl, K.out.1⟩
 by_cases h3 : kind = 3
 ·subst h3
  have hb : (bareR m).cells.toArray = #[.int .i64 3, .int .i64 0, .int .u64 0, .bool false, .slice p1 ps.length c1, .int .u64 0, .int .u64 0, .string ⟨#[]⟩, .slice none 0 0, .int .i64 0, .int .u64 0, .int .u64 0, .int .u64 0, .int .u64 0, .int .u64 0, .slice none 0 0, .slice none 0 0, .bool false] := by rw [hm]; rfl
  rw [hb] at hst K ⊢
  clear hb hm HM
  go_enter Try.func55, Try.ntmps55
  go_wp2_with fail
  have gl := K.out.2
  exact bodyPost_ret (by simp [results, Try.results55, go_sem, gl]) rfl ⟨rfl, K.out.1⟩
 by_cases h4 : kind = 4
 ·subst h4
  have hb : (bareR m).cells.toArray = #[.int .i64 4, .int .i64 pub, .int .u64 0, .bool false, .slice none 0 0, .int .u64 n, .int .u64 tm, .string key, .slice p2 es.length c2, .int .i64 0, .int .u64 0, .int .u64 0, .int .u64 0, .int .u64 0, .int .u64 0, .slice none 0 0, .slice none 0 0, .bool false] := by rw [hm]; rfl
  rw [hb] at hst K ⊢
  clear hb hm HM
  go_enter Try.func55, Try.ntmps55
  go_wp2_with fail
  have gl := K.out.2
  exact bodyPost_ret (by simp [results, Try.results55, go_sem, gl]) rfl ⟨rfl, K.out.1⟩
 by_cases h5 : kind = 5
 ·subst h5
  have hb : (bareR m).cells.toArray = #[.int .i64 5, .int .i64 pub, .int .u64 0, .bool false, .slice p1 ps.length c1, .int .u64 0, .int .u64 0, .string ⟨#[]⟩, .slice none 0 0, .int .i64 tb, .int .u64 tl, .int .u64 tc, .int .u64 frm, .int .u64 0, .int .u64 0, .slice none 0 0, .slice none 0 0, .bool false] := by rw [hm]; rfl
  rw [hb] at hst K ⊢
  clear hb hm HM
  go_enter Try.func55, Try.ntmps55
  go_wp2_with fail
  have gl := K.out.2
  exact bodyPost_ret (by simp [results, Try.results55, go_sem, gl]) rfl ⟨rfl, K.out.1⟩
 by_cases h6 : kind = 6
 ·subst h6
  have hb : (bareR m).cells.toArray = #[.int .i64 6, .int .i64 pub, .int .u64 0, .bool false, .slice none 0 0, .int .u64 0, .int .u64 0, .string ⟨#[]⟩, .slice none 0 0, .int .i64 tb, .int .u64 tl, .int .u64 tc, .int .u64 0, .int .u64 fr, .int .u64 en, .slice p3 its.length c3, .slice p4 gs.length c4, .bool last] := by rw [hm]; rfl
  rw [hb] at hst K ⊢
  clear hb hm HM
  go_enter Try.func55, Try.ntmps55
  go_wp2_with fail
  have gl := K.out.2
  exact bodyPost_ret (by simp [results, Try.results55, go_sem, gl]) rfl ⟨rfl, K.out.1⟩
 have f1 : (kind == 1) = false := by simp [h1]
 have f2 : (kind == 2) = false := by simp [h2]
 have f3 : (kind == 3) = false := by simp [h3]
 have f4 : (kind == 4) = false := by simp [h4]
 have f5 : (kind == 5) = false := by simp [h5]
 have f6 : (kind == 6) = false := by simp [h6]
 have hb : (bareR m).cells.toArray = #[.int .i64 0, .int .i64 0, .int .u64 0, .bool false, .slice none 0 0, .int .u64 0, .int .u64 0, .string ⟨#[]⟩, .slice none 0 0, .int .i64 0, .int .u64 0, .int .u64 0, .int .u64 0, .int .u64 0, .int .u64 0, .slice none 0 0, .slice none 0 0, .bool false] := by rw [hm]; unfold bareR; simp only [if_neg h1, if_neg h2, if_neg h3, if_neg h4, if_neg h5, if_neg h6]; rfl
 rw [hb] at hst K ⊢
 clear hb hm HM h1 h2 h3 h4 h5 h6
 go_enter Try.func55, Try.ntmps55
 go_wp2_with fail
 have gl := K.out.2
 exact bodyPost_ret (by simp [results, Try.results55, go_sem, gl]) rfl ⟨rfl, K.out.1⟩
end Go.Proofs.Ytiednihagnehlaa

namespace Go.Proofs.Ytiednihagnehlaa
open Go.RowKit

/-- the six messages that MsgMay makes of a message's parts -/
abbrev r0 (m : Ms) : Ms := { zeroMs with kind := 1, pub := m.pub, ver := m.ver, there := true, pv := m.pv, ps := m.ps }
abbrev r1 (m : Ms) : Ms := { zeroMs with kind := 2, pv := m.pv, ps := m.ps }
abbrev r2 (m : Ms) : Ms := { zeroMs with kind := 3, pv := m.pv, ps := m.ps }
abbrev r3 (m : Ms) : Ms := { zeroMs with kind := 4, pub := m.pub, it := m.it }
abbrev r4 (m : Ms) : Ms := { zeroMs with kind := 5, pub := m.pub, tb := m.tb, tl := m.tl, tc := m.tc, pv := m.pv, ps := m.ps, frm := m.frm }
abbrev r5 (m : Ms) : Ms := { zeroMs with kind := 6, pub := m.pub, tb := m.tb, tl := m.tl, tc := m.tc, pg := m.pg }
def asksM (m : Ms) : Bool := decide (0 ≤ m.tb) && (decide (m.tb < 64) && (numOk m.tl && numOk m.tc))
theorem range8 : List.range 8 = [0, 1, 2, 3, 4, 5, 6, 7] := by decide
theorem noI : sameI ⟨0, 0, ⟨#[]⟩, []⟩ noItem = true := by decide +kernel
theorem noG : sameG ⟨0, 0, [], [], false⟩ noPage = true := by decide +kernel
theorem mayM_eq (m : PMs) : mayM m = ((partOk m 0 && (partOk m 1 && (partOk m 2 && (partOk m 3 && (partOk m 4 && (partOk m 5 && (partOk m 6 && partOk m 7))))))) && decide (0 < (partsL m.kind).length)) := by
 unfold mayM
 rw [range8]
 simp
theorem may0 (m : Ms) : mayM (r0 m).plain = (decide (0 ≤ homeZ m.pub) && (numOk m.ver && okP (m.ps.map Con.plain))) := by
 rw [mayM_eq]
 simp [partOk, partsL, rightM, bareM, Ms.plain, zeroMs, It.plain, Pg.plain, noI, noG]
theorem may1 (m : Ms) : mayM (r1 m).plain = okP (m.ps.map Con.plain) := by
 rw [mayM_eq]
 simp [partOk, partsL, rightM, bareM, Ms.plain, zeroMs, It.plain, Pg.plain, noI, noG]
theorem may2 (m : Ms) : mayM (r2 m).plain = okP (m.ps.map Con.plain) := by
 rw [mayM_eq]
 simp [partOk, partsL, rightM, bareM, Ms.plain, zeroMs, It.plain, Pg.plain, noI, noG]
theorem may3 (m : Ms) : mayM (r3 m).plain = (decide (0 ≤ homeZ m.pub) && itOk m.it.plain) := by
 rw [mayM_eq]
 simp [partOk, partsL, rightM, bareM, Ms.plain, zeroMs, Pg.plain, noG]
theorem may4 (m : Ms) : mayM (r4 m).plain = (decide (0 ≤ homeZ m.pub) && (asksM m && (okP (m.ps.map Con.plain) && (decide (1 ≤ m.frm) && decide (m.frm ≤ 1099511627777))))) := by
 rw [mayM_eq]
 simp [partOk, partsL, rightM, bareM, Ms.plain, zeroMs, It.plain, Pg.plain, noI, noG, asksM]
 ac_rfl
theorem may5 (m : Ms) : mayM (r5 m).plain = (decide (0 ≤ homeZ m.pub) && (asksM m && pgOk m.pg.plain)) := by
 rw [mayM_eq]
 simp [partOk, partsL, rightM, bareM, Ms.plain, zeroMs, It.plain, noI, asksM]
/-- a part that is set though the Kind has none -/
theorem no_part {m : PMs} (i : Nat) (hi : i < 8) (k : Int) (hk : m.kind = k) (hp : (i : Int) ∉ partsL k) (hb : bareM m (i : Int) = false) : mayM m = false :=
 mayM_no hi (by unfold partOk; rw [hk, if_neg hp]; exact hb)
def RR (m : Ms) : Nat → Ms
 | 0 => r0 m
 | 1 => r1 m
 | 2 => r2 m
 | 3 => r3 m
 | 4 => r4 m
 | _ => r5 m
def mays (m : Ms) : Nat → Bool
 | 0 => decide (0 ≤ homeZ m.pub) && (numOk m.ver && okP (m.ps.map Con.plain))
 | 1 => okP (m.ps.map Con.plain)
 | 2 => okP (m.ps.map Con.plain)
 | 3 => decide (0 ≤ homeZ m.pub) && itOk m.it.plain
 | 4 => decide (0 ≤ homeZ m.pub) && (asksM m && (okP (m.ps.map Con.plain) && (decide (1 ≤ m.frm) && decide (m.frm ≤ 1099511627777))))
 | _ => decide (0 ≤ homeZ m.pub) && (asksM m && pgOk m.pg.plain)
theorem six {i : Nat} (h : i < 6) : i = 0 ∨ i = 1 ∨ i = 2 ∨ i = 3 ∨ i = 4 ∨ i = 5 := by omega
theorem mays_eq (m : Ms) {i : Nat} (h : i < 6) : mayM (RR m i).plain = mays m i := by
 rcases six h with rfl | rfl | rfl | rfl | rfl | rfl
 ·exact may0 m
 ·exact may1 m
 ·exact may2 m
 ·exact may3 m
 ·exact may4 m
 ·exact may5 m
theorem RR_fine {m : Ms} {w : World} (h : m.fine w) {i : Nat} (hi : i < 6) : (RR m i).fine w := by
 have hz := (MsO.zero w 0).fine
 obtain ⟨h1, h2, h3, ⟨k1, k2, k3⟩, h5, h6, h7, h8⟩ := h
 have q : ∀ k : Int, 0 ≤ k → k ≤ 6 → I64 k := fun k a b => ⟨by omega, by omega⟩
 have u : U64 0 := by unfold U64; decide
 rcases six hi with rfl | rfl | rfl | rfl | rfl | rfl
 ·exact ⟨h1, hz.2.1, hz.2.2.1, ⟨q 1 (by decide) (by decide), k2, q 0 (by decide) (by decide)⟩, h5, u, u, u⟩
 ·exact ⟨h1, hz.2.1, hz.2.2.1, ⟨q 2 (by decide) (by decide), q 0 (by decide) (by decide), q 0 (by decide) (by decide)⟩, u, u, u, u⟩
 ·exact ⟨h1, hz.2.1, hz.2.2.1, ⟨q 3 (by decide) (by decide), q 0 (by decide) (by decide), q 0 (by decide) (by decide)⟩, u, u, u, u⟩
 ·exact ⟨hz.1, h2, hz.2.2.1, ⟨q 4 (by decide) (by decide), k2, q 0 (by decide) (by decide)⟩, u, u, u, u⟩
 ·exact ⟨h1, hz.2.1, hz.2.2.1, ⟨q 5 (by decide) (by decide), k2, k3⟩, u, h6, h7, h8⟩
 ·exact ⟨hz.1, hz.2.1, h3, ⟨q 6 (by decide) (by decide), k2, k3⟩, u, h6, h7, u⟩
theorem fine_ver {m : Ms} {w : World} (h : m.fine w) : ({ m with ver := 1 } : Ms).fine w := ⟨h.1, h.2.1, h.2.2.1, h.2.2.2.1, by show 1 < 18446744073709551616; decide, h.2.2.2.2.2⟩
theorem fine_there {m : Ms} {w : World} (h : m.fine w) (b : Bool) : ({ m with there := b } : Ms).fine w := h
theorem fine_frm {m : Ms} {w : World} (h : m.fine w) : ({ m with frm := 1 } : Ms).fine w := ⟨h.1, h.2.1, h.2.2.1, h.2.2.2.1, h.2.2.2.2.1, h.2.2.2.2.2.1, h.2.2.2.2.2.2.1, by show 1 < 18446744073709551616; decide⟩
theorem fine_life {m : Ms} {w : World} (h : m.fine w) : ({ m with tl := 1 } : Ms).fine w := ⟨h.1, h.2.1, h.2.2.1, h.2.2.2.1, h.2.2.2.2.1, by show 1 < 18446744073709551616; decide, h.2.2.2.2.2.2.1, h.2.2.2.2.2.2.2⟩
theorem fine_last {m : Ms} {w : World} (h : m.fine w) : ({ m with pg := { m.pg with last := true } } : Ms).fine w := h
theorem fine_time {m : Ms} {w : World} (h : m.fine w) : ({ m with it := { m.it with time := 1 } } : Ms).fine w := ⟨h.1, ⟨h.2.1.1, h.2.1.2.1, h.2.1.2.2.1, h.2.1.2.2.2.1, by show 1 < _; decide⟩, h.2.2⟩

theorem badV (m : Ms) {i : Nat} (h : i < 6) (h0 : 0 < i) : mayM ({ RR m i with ver := 1 } : Ms).plain = false := by
 rcases six h with rfl | rfl | rfl | rfl | rfl | rfl
 ·cases h0
 ·exact no_part 1 (by decide) 2 rfl (by decide) rfl
 ·exact no_part 1 (by decide) 3 rfl (by decide) rfl
 ·exact no_part 1 (by decide) 4 rfl (by decide) rfl
 ·exact no_part 1 (by decide) 5 rfl (by decide) rfl
 ·exact no_part 1 (by decide) 6 rfl (by decide) rfl
theorem badT (m : Ms) {i : Nat} (h : i < 6) (h0 : 0 < i) : mayM ({ RR m i with there := true } : Ms).plain = false := by
 rcases six h with rfl | rfl | rfl | rfl | rfl | rfl
 ·cases h0
 ·exact no_part 2 (by decide) 2 rfl (by decide) rfl
 ·exact no_part 2 (by decide) 3 rfl (by decide) rfl
 ·exact no_part 2 (by decide) 4 rfl (by decide) rfl
 ·exact no_part 2 (by decide) 5 rfl (by decide) rfl
 ·exact no_part 2 (by decide) 6 rfl (by decide) rfl
theorem badF (m : Ms) {i : Nat} (h : i < 6) (h0 : i ≠ 4) : mayM ({ RR m i with frm := 1 } : Ms).plain = false := by
 rcases six h with rfl | rfl | rfl | rfl | rfl | rfl
 ·exact no_part 6 (by decide) 1 rfl (by decide) rfl
 ·exact no_part 6 (by decide) 2 rfl (by decide) rfl
 ·exact no_part 6 (by decide) 3 rfl (by decide) rfl
 ·exact no_part 6 (by decide) 4 rfl (by decide) rfl
 ·exact absurd rfl h0
 ·exact no_part 6 (by decide) 6 rfl (by decide) rfl
theorem notG : sameG ⟨0, 0, [], [], true⟩ noPage = false := by decide +kernel
theorem notI : sameI ⟨0, 1, ⟨#[]⟩, []⟩ noItem = false := by decide +kernel
theorem badL (m : Ms) {i : Nat} (h : i < 6) (h0 : i < 5) : mayM ({ RR m i with pg := { (RR m i).pg with last := true } } : Ms).plain = false := by
 rcases six h with rfl | rfl | rfl | rfl | rfl | rfl
 ·exact no_part 7 (by decide) 1 rfl (by decide) notG
 ·exact no_part 7 (by decide) 2 rfl (by decide) notG
 ·exact no_part 7 (by decide) 3 rfl (by decide) notG
 ·exact no_part 7 (by decide) 4 rfl (by decide) notG
 ·exact no_part 7 (by decide) 5 rfl (by decide) notG
 ·omega
theorem badI (m : Ms) {i : Nat} (h : i < 6) (h0 : i ≠ 3) : mayM ({ RR m i with it := { (RR m i).it with time := 1 } } : Ms).plain = false := by
 rcases six h with rfl | rfl | rfl | rfl | rfl | rfl
 ·exact no_part 4 (by decide) 1 rfl (by decide) notI
 ·exact no_part 4 (by decide) 2 rfl (by decide) notI
 ·exact no_part 4 (by decide) 3 rfl (by decide) notI
 ·exact absurd rfl h0
 ·exact no_part 4 (by decide) 5 rfl (by decide) notI
 ·exact no_part 4 (by decide) 6 rfl (by decide) notI
theorem badK (m : Ms) {i : Nat} (h : i < 6) (h0 : i < 4) : mayM ({ RR m i with tl := 1 } : Ms).plain = false := by
 rcases six h with rfl | rfl | rfl | rfl | rfl | rfl
 ·exact no_part 5 (by decide) 1 rfl (by decide) rfl
 ·exact no_part 5 (by decide) 2 rfl (by decide) rfl
 ·exact no_part 5 (by decide) 3 rfl (by decide) rfl
 ·exact no_part 5 (by decide) 4 rfl (by decide) rfl
 ·omega
 ·omega
/-- a publisher's word that it is gone -/
abbrev rGone (m : Ms) : Ms := { zeroMs with kind := 1, pub := m.pub, ver := m.ver }
theorem gone_fine {m : Ms} {w : World} (h : m.fine w) : (rGone m).fine w :=
 have hz := (MsO.zero w 0).fine
 ⟨hz.1, hz.2.1, hz.2.2.1, ⟨⟨by show (-9223372036854775808 : Int) ≤ 1; decide, by show (1 : Int) ≤ 9223372036854775807; decide⟩, h.2.2.2.1.2.1, hz.2.2.2.1.2.2⟩, h.2.2.2.2.1, hz.2.2.2.2.2⟩
theorem seven_fine (w : World) : ({ zeroMs with kind := 7 } : Ms).fine w :=
 have hz := (MsO.zero w 0).fine
 ⟨hz.1, hz.2.1, hz.2.2.1, ⟨⟨by show (-9223372036854775808 : Int) ≤ 7; decide, by show (7 : Int) ≤ 9223372036854775807; decide⟩, hz.2.2.2.1.2⟩, hz.2.2.2.2⟩
theorem mayGone (m : Ms) : mayM (rGone m).plain = (decide (0 ≤ homeZ m.pub) && numOk m.ver) := by
 rw [mayM_eq]
 simp [partOk, partsL, rightM, bareM, Ms.plain, zeroMs, It.plain, Pg.plain, noI, noG]
theorem mayWith (m : Ms) (v : Value) (c : Con) : mayM ({ rGone m with pv := v, ps := [c] } : Ms).plain = false :=
 mayM_no (i := 3) (by decide) (by simp [partOk, partsL, rightM, Ms.plain, zeroMs])
theorem mayZero : mayM zeroMs.plain = false := by decide +kernel
theorem maySeven : mayM ({ zeroMs with kind := 7 } : Ms).plain = false := by decide +kernel
end Go.Proofs.Ytiednihagnehlaa

namespace Go.Proofs.Ytiednihagnehlaa
open Go.RowKit

def bareP (m : PMs) : PMs :=
 if m.kind = 1 then (if m.there = true then { noMs with kind := 1, pub := m.pub, ver := m.ver, there := true, ps := m.ps } else { noMs with kind := 1, pub := m.pub, ver := m.ver })
 else if m.kind = 2 then { noMs with kind := 2, ps := m.ps } else if m.kind = 3 then { noMs with kind := 3, ps := m.ps }
 else if m.kind = 4 then { noMs with kind := 4, pub := m.pub, it := m.it } else if m.kind = 5 then { noMs with kind := 5, pub := m.pub, tb := m.tb, tl := m.tl, tc := m.tc, ps := m.ps, frm := m.frm }
 else if m.kind = 6 then { noMs with kind := 6, pub := m.pub, tb := m.tb, tl := m.tl, tc := m.tc, pg := m.pg } else noMs
theorem bareR_plain (m : Ms) : (bareR m).plain = bareP m.plain := by
 have e1 : m.plain.kind = m.kind := rfl
 have e2 : m.plain.there = m.there := rfl
 unfold bareR bareP
 rw [e1, e2]
 repeat' split
 all_goals rfl
def mayR (m : PMs) : Bool := (decide (1 ≤ m.kind) && (decide (m.kind ≤ 6) && (sameM (bareP m) m && decide (0 ≤ homeZ m.pub)))) && ((!(m.kind == 1) || numOk m.ver) && ((!(decide (5 ≤ m.kind)) || (decide (0 ≤ m.tb) && (decide (m.tb ≤ 63) && (numOk m.tl && numOk m.tc)))) && (((!(m.kind == 4) || itOk m.it) && ((!(m.kind == 6) || pgOk m.pg) && (!(m.kind == 5) || (decide (1 ≤ m.frm) && decide (m.frm ≤ 1099511627777))))) && okP m.ps)))
theorem okP_nil : okP [] = true := by decide +kernel
theorem home_zero : homeZ 0 = 0 := by decide
theorem mayR_eq (m : PMs) : mayR m = mayM m := by
 have o := okP_nil
 have z := home_zero
 rw [Bool.eq_iff_iff]
 obtain ⟨kind, pub, ver, there, ps, it, tb, tl, tc, frm, pg⟩ := m
 by_cases h1 : kind = 1
 ·subst h1
  cases there
  ·simp [mayR, mayM_eq, partOk, partsL, rightM, bareM, bareP, sameM_iff, noMs, sameI_iff, sameG_iff]
   grind
  ·simp [mayR, mayM_eq, partOk, partsL, rightM, bareM, bareP, sameM_iff, noMs, sameI_iff, sameG_iff]
   grind
 by_cases h2 : kind = 2
 ·subst h2
  simp [mayR, mayM_eq, partOk, partsL, rightM, bareM, bareP, sameM_iff, noMs, sameI_iff, sameG_iff]
  grind
 by_cases h3 : kind = 3
 ·subst h3
  simp [mayR, mayM_eq, partOk, partsL, rightM, bareM, bareP, sameM_iff, noMs, sameI_iff, sameG_iff]
  grind
 by_cases h4 : kind = 4
 ·subst h4
  simp [mayR, mayM_eq, partOk, partsL, rightM, bareM, bareP, sameM_iff, noMs, sameG_iff]
  grind
 by_cases h5 : kind = 5
 ·subst h5
  simp [mayR, mayM_eq, partOk, partsL, rightM, bareM, bareP, sameM_iff, noMs, sameI_iff, sameG_iff]
  grind
 by_cases h6 : kind = 6
 ·subst h6
  simp [mayR, mayM_eq, partOk, partsL, rightM, bareM, bareP, sameM_iff, noMs, sameI_iff]
  grind
 ·have hl : partsL kind = [] := by unfold partsL; simp [h1, h2, h3, h4, h5, h6]
  constructor
  ·intro h
   unfold mayR at h
   simp only [Bool.and_eq_true, decide_eq_true_eq] at h
   omega
  ·intro h
   rw [mayM_eq] at h
   simp [hl] at h
end Go.Proofs.Ytiednihagnehlaa
