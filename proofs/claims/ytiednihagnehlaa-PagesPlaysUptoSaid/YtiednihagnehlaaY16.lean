/- DERIVED. Chapter 21: a message; msg.right, msg.bare. -/
import Derived.Test.YtiednihagnehlaaY12
import Derived.Test.YtiednihagnehlaaY15
namespace Go.Proofs.Ytiednihagnehlaa
open Go.RowKit

/-- a message: pv is where its predicate lies -/
structure Ms where
 kind : Int
 pub : Int
 ver : Nat
 there : Bool
 pv : Value
 ps : List Con
 it : It
 tb : Int
 tl : Nat
 tc : Nat
 frm : Nat
 pg : Pg
/-- a message, without where its parts lie -/
structure PMs where
 kind : Int
 pub : Int
 ver : Nat
 there : Bool
 ps : List PCon
 it : PIt
 tb : Int
 tl : Nat
 tc : Nat
 frm : Nat
 pg : PPg
def Ms.cells (m : Ms) : List Value := [.int .i64 m.kind, .int .i64 m.pub, .int .u64 m.ver, .bool m.there, m.pv, .int .u64 m.it.n, .int .u64 m.it.time, .string m.it.key, m.it.av, .int .i64 m.tb, .int .u64 m.tl, .int .u64 m.tc, .int .u64 m.frm, .int .u64 m.pg.fr, .int .u64 m.pg.en, m.pg.iv, m.pg.gv, .bool m.pg.last]
def Ms.plain (m : Ms) : PMs := ⟨m.kind, m.pub, m.ver, m.there, m.ps.map Con.plain, m.it.plain, m.tb, m.tl, m.tc, m.frm, m.pg.plain⟩
def I64 (x : Int) : Prop := -9223372036854775808 ≤ x ∧ x ≤ 9223372036854775807
def U64 (x : Nat) : Prop := x < 18446744073709551616
def Ms.fine (w : World) (m : Ms) : Prop := (Cons w m.pv m.ps ∧ (0 < m.ps.length → ∀ b, m.pv.ownBlock = some b → b < w.heap.size)) ∧ m.it.fine w ∧ m.pg.fine w ∧ (I64 m.kind ∧ I64 m.pub ∧ I64 m.tb) ∧ (U64 m.ver ∧ U64 m.tl ∧ U64 m.tc ∧ U64 m.frm)
theorem Ms.fine.old {w w' : World} {m : Ms} (h : m.fine w) (k : Old w w') : m.fine w' :=
 ⟨⟨h.1.1.old k, fun h0 b hb => Nat.lt_of_lt_of_le (h.1.2 h0 b hb) k.size⟩, It.fine.old h.2.1 k, Pg.fine.old h.2.2.1 k, h.2.2.2⟩
def noItem : PIt := ⟨0, 0, ⟨#[]⟩, []⟩
def noPage : PPg := ⟨0, 0, [], [], false⟩
def noMs : PMs := ⟨0, 0, 0, false, [], noItem, 0, 0, 0, 0, noPage⟩
/-- is a part as it must be? -/
def rightM (m : PMs) (p : Int) : Bool :=
 if p = 0 then decide (0 ≤ homeZ m.pub) else if p = 1 then numOk m.ver else if p = 3 then (m.kind == 1 && (!m.there && m.ps.isEmpty)) || ((m.kind != 1 || m.there) && okP m.ps) else if p = 4 then itOk m.it
 else if p = 5 then decide (0 ≤ m.tb) && (decide (m.tb < 64) && (numOk m.tl && numOk m.tc)) else if p = 6 then decide (1 ≤ m.frm) && decide (m.frm ≤ 1099511627777) else if p = 7 then pgOk m.pg else true
/-- is a part not set? -/
def bareM (m : PMs) (p : Int) : Bool :=
 if p = 0 then m.pub == 0 else if p = 1 then m.ver == 0 else if p = 2 then !m.there else if p = 3 then m.ps.isEmpty else if p = 4 then sameI m.it noItem else if p = 5 then m.tb == 0 && (m.tl == 0 && m.tc == 0) else if p = 6 then m.frm == 0 else sameG m.pg noPage

theorem blkM {w : World} {b : Nat} {t : TypeId} {a0 a1 a2 a3 a4 a5 a6 a7 a8 a9 a10 a11 a12 a13 a14 a15 a16 a17 : Value} (h : w.heap[b]? = some (.cells #[a0, a1, a2, a3, a4, a5, a6, a7, a8, a9, a10, a11, a12, a13, a14, a15, a16, a17] t (0, 0))) :
  w.cell? ⟨b, 0, none⟩ = some a0 ∧ w.cell? ⟨b, 1, none⟩ = some a1 ∧ w.cell? ⟨b, 2, none⟩ = some a2 ∧ w.cell? ⟨b, 3, none⟩ = some a3 ∧ w.cell? ⟨b, 4, none⟩ = some a4 ∧ w.cell? ⟨b, 5, none⟩ = some a5 ∧ w.cell? ⟨b, 6, none⟩ = some a6 ∧ w.cell? ⟨b, 7, none⟩ = some a7 ∧ w.cell? ⟨b, 8, none⟩ = some a8 ∧ w.cell? ⟨b, 9, none⟩ = some a9 ∧ w.cell? ⟨b, 10, none⟩ = some a10 ∧ w.cell? ⟨b, 11, none⟩ = some a11 ∧ w.cell? ⟨b, 12, none⟩ = some a12 ∧ w.cell? ⟨b, 13, none⟩ = some a13 ∧ w.cell? ⟨b, 14, none⟩ = some a14 ∧ w.cell? ⟨b, 15, none⟩ = some a15 ∧ w.cell? ⟨b, 16, none⟩ = some a16 ∧ w.cell? ⟨b, 17, none⟩ = some a17 := by simp [World.cell?, h]
theorem eq_tok_in (m : Nat) (F3 : ∀ x y W, (Op.equalIn m 3 (.int .i64 x) (.int .i64 y)).run Try.prog W = .ok (x == y) W) (F : ∀ x y W, (Op.equalIn m 28 (.int .u64 x) (.int .u64 y)).run Try.prog W = .ok (x == y) W) (a a' b b' c c' : Int) (W : World) :
  (Op.equalIn (m+1) 37 (.agg #[.int .i64 a, .int .u64 b, .int .u64 c]) (.agg #[.int .i64 a', .int .u64 b', .int .u64 c'])).run Try.prog W = .ok (a == a' && (b == b' && c == c')) W := by
 have hst : Try.prog.stoodInHeld 37 = false := by kernel_rfl
 unfold Op.equalIn
 cases h1 : (a == a')
 ·simp [go_sem, hst, F3, h1]
 ·cases h2 : (b == b')
  ·simp [go_sem, hst, F3, F, h1, h2]
  ·cases h3 : (c == c') <;> simp [go_sem, hst, F3, F, h1, h2, h3]
theorem eql_tok (a a' b b' c c' : Int) (W : World) :
  (binOp .eql 37 (.agg #[.int .i64 a, .int .u64 b, .int .u64 c]) (.agg #[.int .i64 a', .int .u64 b', .int .u64 c'])).run Try.prog W = .ok (.bool (a == a' && (b == b' && c == c'))) W := by
 have h := eq_tok_in 9999 (eq_int 9998) (eq_u64 9998) a a' b b' c c' W
 simp [binOp, go_sem, Op.equal, Op.maxDepth, h]

set_option maxRecDepth 100000 in
set_option maxHeartbeats 2000000 in
theorem right0 (m : Ms) (w : World) (h : m.fine w) : Calls Try.prog 34 #[.agg m.cells.toArray, .int .i64 0] w fun e w' => e = .returned (.bool (rightM m.plain 0)) ∧ Old w w' := by
 obtain ⟨kind, pub, ver, there, pv, ps, ⟨n, tm, key, av, es⟩, tb, tl, tc, frm, ⟨fr, en, iv, its, gv, gs, last⟩⟩ := m
 obtain ⟨p1, c1, e1, _, r1⟩ := h.1.1.1.len
 obtain ⟨p2, c2, e2, _, _⟩ := h.2.1.1.len
 obtain ⟨p3, c3, e3, _, _⟩ := h.2.2.1.1.1.len
 obtain ⟨p4, c4, e4, _, _⟩ := h.2.2.1.1.2.2.len
 simp only at e1 e2 e3 e4
 subst e1 e2 e3 e4
 have hps : ps.length ≤ 9223372036854775807 := by have := h.1.1.1.len; obtain ⟨_, c, e, h1, h2⟩ := this; unfold maxLen at h2; simp only at h1; omega
 unfold Ms.cells
 simp only
 obtain ⟨W0, hW0⟩ : ∃ W0, w.alloc (.cells #[.int .i64 kind, .int .i64 pub, .int .u64 ver, .bool there, .slice p1 ps.length c1, .int .u64 n, .int .u64 tm, .string key, .slice p2 es.length c2, .int .i64 tb, .int .u64 tl, .int .u64 tc, .int .u64 frm, .int .u64 fr, .int .u64 en, .slice p3 its.length c3, .slice p4 gs.length c4, .bool last] 43) = W0 := ⟨_, rfl⟩
 have k0 : Old w W0 := by rw [← hW0]; exact (Keeps.refl _ _).alloc _
 have b0 : W0.heap[w.heap.size]? = some (.cells #[.int .i64 kind, .int .i64 pub, .int .u64 ver, .bool there, .slice p1 ps.length c1, .int .u64 n, .int .u64 tm, .string key, .slice p2 es.length c2, .int .i64 tb, .int .u64 tl, .int .u64 tc, .int .u64 frm, .int .u64 fr, .int .u64 en, .slice p3 its.length c3, .slice p4 gs.length c4, .bool last] 43 (0, 0)) := by rw [← hW0]; exact heap_alloc_new _ _
 have g := blkM b0
 have hf := Ms.fine.old h k0
 have K := Lib.hid k0
 obtain ⟨⟨h1, _⟩, h2, h3, ⟨hk64, hp64, ht64⟩, hv64, hl64, hc64, hf64⟩ := h
 unfold I64 at hk64 hp64 ht64
 unfold U64 at hv64 hl64 hc64 hf64
 simp only at hk64 hp64 ht64 hv64 hl64 hc64 hf64
 clear r1 k0 b0 h1 h2 h3
 unfold Ms.plain rightM
 simp only [if_true]
 have HC := Lib.hid (home_any pub W0 hp64)
 clear hf
 generalize homeZ pub = z at HC ⊢
 obtain ⟨zb, t⟩ : ∃ b, decide (0 ≤ z) = b := ⟨_, rfl⟩
 rw [t]
 go_enter Try.func34, Try.ntmps34
 go_wp2_with fail
 refine HC.out.mono ?_
 rintro e w1 ⟨rfl, rfl⟩
 go_wp2_with fail
 go_ret
 exact ⟨rfl, K.out⟩

set_option maxRecDepth 100000 in
set_option maxHeartbeats 2000000 in
theorem right1 (m : Ms) (w : World) (h : m.fine w) : Calls Try.prog 34 #[.agg m.cells.toArray, .int .i64 1] w fun e w' => e = .returned (.bool (rightM m.plain 1)) ∧ Old w w' := by
 obtain ⟨kind, pub, ver, there, pv, ps, ⟨n, tm, key, av, es⟩, tb, tl, tc, frm, ⟨fr, en, iv, its, gv, gs, last⟩⟩ := m
 obtain ⟨p1, c1, e1, _, r1⟩ := h.1.1.1.len
 obtain ⟨p2, c2, e2, _, _⟩ := h.2.1.1.len
 obtain ⟨p3, c3, e3, _, _⟩ := h.2.2.1.1.1.len
 obtain ⟨p4, c4, e4, _, _⟩ := h.2.2.1.1.2.2.len
 simp only at e1 e2 e3 e4
 subst e1 e2 e3 e4
 have hps : ps.length ≤ 9223372036854775807 := by have := h.1.1.1.len; obtain ⟨_, c, e, h1, h2⟩ := this; unfold maxLen at h2; simp only at h1; omega
 unfold Ms.cells
 simp only
 obtain ⟨W0, hW0⟩ : ∃ W0, w.alloc (.cells #[.int .i64 kind, .int .i64 pub, .int .u64 ver, .bool there, .slice p1 ps.length c1, .int .u64 n, .int .u64 tm, .string key, .slice p2 es.length c2, .int .i64 tb, .int .u64 tl, .int .u64 tc, .int .u64 frm, .int .u64 fr, .int .u64 en, .slice p3 its.length c3, .slice p4 gs.length c4, .bool last] 43) = W0 := ⟨_, rfl⟩
 have k0 : Old w W0 := by rw [← hW0]; exact (Keeps.refl _ _).alloc _
 have b0 : W0.heap[w.heap.size]? = some (.cells #[.int .i64 kind, .int .i64 pub, .int .u64 ver, .bool there, .slice p1 ps.length c1, .int .u64 n, .int .u64 tm, .string key, .slice p2 es.length c2, .int .i64 tb, .int .u64 tl, .int .u64 tc, .int .u64 frm, .int .u64 fr, .int .u64 en, .slice p3 its.length c3, .slice p4 gs.length c4, .bool last] 43 (0, 0)) := by rw [← hW0]; exact heap_alloc_new _ _
 have g := blkM b0
 have hf := Ms.fine.old h k0
 have K := Lib.hid k0
 obtain ⟨⟨h1, _⟩, h2, h3, ⟨hk64, hp64, ht64⟩, hv64, hl64, hc64, hf64⟩ := h
 unfold I64 at hk64 hp64 ht64
 unfold U64 at hv64 hl64 hc64 hf64
 simp only at hk64 hp64 ht64 hv64 hl64 hc64 hf64
 clear r1 k0 b0 h1 h2 h3
 unfold Ms.plain rightM
 simp only [show ¬ ((1 : Int) = 0) by decide, if_false, if_true]
 have HC := Lib.hid (number_ok_any ver W0)
 generalize numOk ver = z at HC ⊢
 clear hf
 go_enter Try.func34, Try.ntmps34
 go_wp2_with fail
 refine HC.out.mono ?_
 rintro e w1 ⟨rfl, rfl⟩
 go_wp2_with fail
 go_ret
 exact ⟨rfl, K.out⟩

set_option maxRecDepth 100000 in
set_option maxHeartbeats 2000000 in
theorem right2 (m : Ms) (w : World) (h : m.fine w) : Calls Try.prog 34 #[.agg m.cells.toArray, .int .i64 2] w fun e w' => e = .returned (.bool (rightM m.plain 2)) ∧ Old w w' := by
 obtain ⟨kind, pub, ver, there, pv, ps, ⟨n, tm, key, av, es⟩, tb, tl, tc, frm, ⟨fr, en, iv, its, gv, gs, last⟩⟩ := m
 obtain ⟨p1, c1, e1, _, r1⟩ := h.1.1.1.len
 obtain ⟨p2, c2, e2, _, _⟩ := h.2.1.1.len
 obtain ⟨p3, c3, e3, _, _⟩ := h.2.2.1.1.1.len
 obtain ⟨p4, c4, e4, _, _⟩ := h.2.2.1.1.2.2.len
 simp only at e1 e2 e3 e4
 subst e1 e2 e3 e4
 have hps : ps.length ≤ 9223372036854775807 := by have := h.1.1.1.len; obtain ⟨_, c, e, h1, h2⟩ := this; unfold maxLen at h2; simp only at h1; omega
 unfold Ms.cells
 simp only
 obtain ⟨W0, hW0⟩ : ∃ W0, w.alloc (.cells #[.int .i64 kind, .int .i64 pub, .int .u64 ver, .bool there, .slice p1 ps.length c1, .int .u64 n, .int .u64 tm, .string key, .slice p2 es.length c2, .int .i64 tb, .int .u64 tl, .int .u64 tc, .int .u64 frm, .int .u64 fr, .int .u64 en, .slice p3 its.length c3, .slice p4 gs.length c4, .bool last] 43) = W0 := ⟨_, rfl⟩
 have k0 : Old w W0 := by rw [← hW0]; exact (Keeps.refl _ _).alloc _
 have b0 : W0.heap[w.heap.size]? = some (.cells #[.int .i64 kind, .int .i64 pub, .int .u64 ver, .bool there, .slice p1 ps.length c1, .int .u64 n, .int .u64 tm, .string key, .slice p2 es.length c2, .int .i64 tb, .int .u64 tl, .int .u64 tc, .int .u64 frm, .int .u64 fr, .int .u64 en, .slice p3 its.length c3, .slice p4 gs.length c4, .bool last] 43 (0, 0)) := by rw [← hW0]; exact heap_alloc_new _ _
 have g := blkM b0
 have hf := Ms.fine.old h k0
 have K := Lib.hid k0
 obtain ⟨⟨h1, _⟩, h2, h3, ⟨hk64, hp64, ht64⟩, hv64, hl64, hc64, hf64⟩ := h
 unfold I64 at hk64 hp64 ht64
 unfold U64 at hv64 hl64 hc64 hf64
 simp only at hk64 hp64 ht64 hv64 hl64 hc64 hf64
 clear r1 k0 b0 h1 h2 h3
 unfold Ms.plain rightM
 simp only [show ¬ ((2 : Int) = 0) by decide, if_false, show ¬ ((2 : Int) = 1) by decide, show ¬ ((2 : Int) = 3) by decide, show ¬ ((2 : Int) = 4) by decide, show ¬ ((2 : Int) = 5) by decide, show ¬ ((2 : Int) = 6) by decide, show ¬ ((2 : Int) = 7) by decide]
 clear hf
 go_enter Try.func34, Try.ntmps34
 go_wp2_with fail
 go_ret
 exact ⟨rfl, K.out⟩

set_option maxRecDepth 100000 in
set_option maxHeartbeats 2000000 in
theorem right3 (m : Ms) (w : World) (h : m.fine w) : Calls Try.prog 34 #[.agg m.cells.toArray, .int .i64 3] w fun e w' => e = .returned (.bool (rightM m.plain 3)) ∧ Old w w' := by
 obtain ⟨kind, pub, ver, there, pv, ps, ⟨n, tm, key, av, es⟩, tb, tl, tc, frm, ⟨fr, en, iv, its, gv, gs, last⟩⟩ := m
 obtain ⟨p1, c1, e1, _, r1⟩ := h.1.1.1.len
 obtain ⟨p2, c2, e2, _, _⟩ := h.2.1.1.len
 obtain ⟨p3, c3, e3, _, _⟩ := h.2.2.1.1.1.len
 obtain ⟨p4, c4, e4, _, _⟩ := h.2.2.1.1.2.2.len
 simp only at e1 e2 e3 e4
 subst e1 e2 e3 e4
 have hps : ps.length ≤ 9223372036854775807 := by have := h.1.1.1.len; obtain ⟨_, c, e, h1, h2⟩ := this; unfold maxLen at h2; simp only at h1; omega
 unfold Ms.cells
 simp only
 obtain ⟨W0, hW0⟩ : ∃ W0, w.alloc (.cells #[.int .i64 kind, .int .i64 pub, .int .u64 ver, .bool there, .slice p1 ps.length c1, .int .u64 n, .int .u64 tm, .string key, .slice p2 es.length c2, .int .i64 tb, .int .u64 tl, .int .u64 tc, .int .u64 frm, .int .u64 fr, .int .u64 en, .slice p3 its.length c3, .slice p4 gs.length c4, .bool last] 43) = W0 := ⟨_, rfl⟩
 have k0 : Old w W0 := by rw [← hW0]; exact (Keeps.refl _ _).alloc _
 have b0 : W0.heap[w.heap.size]? = some (.cells #[.int .i64 kind, .int .i64 pub, .int .u64 ver, .bool there, .slice p1 ps.length c1, .int .u64 n, .int .u64 tm, .string key, .slice p2 es.length c2, .int .i64 tb, .int .u64 tl, .int .u64 tc, .int .u64 frm, .int .u64 fr, .int .u64 en, .slice p3 its.length c3, .slice p4 gs.length c4, .bool last] 43 (0, 0)) := by rw [← hW0]; exact heap_alloc_new _ _
 have g := blkM b0
 have hf := Ms.fine.old h k0
 have K := Lib.hid k0
 obtain ⟨⟨h1, _⟩, h2, h3, ⟨hk64, hp64, ht64⟩, hv64, hl64, hc64, hf64⟩ := h
 unfold I64 at hk64 hp64 ht64
 unfold U64 at hv64 hl64 hc64 hf64
 simp only at hk64 hp64 ht64 hv64 hl64 hc64 hf64
 clear r1 k0 b0 h1 h2 h3
 unfold Ms.plain rightM
 simp only [show ¬ ((3 : Int) = 0) by decide, if_false, show ¬ ((3 : Int) = 1) by decide, if_true]
 have CP := pred_may_any _ ps W0 hf.1.1
 rw [predOk_plain] at CP
 simp only at CP
 obtain ⟨ze, hze⟩ : ∃ b, (ps.map Con.plain).isEmpty = b := ⟨_, rfl⟩
 rw [hze]
 have hz1 : decide (ps.length = 0) = ze := by rw [← hze]; cases ps <;> rfl
 have t : ((ps.length : Int) == 0) = ze := by rw [← hz1, Bool.eq_iff_iff, beq_iff_eq, decide_eq_true_eq]; omega
 have t2 : (ps.length == 0) = ze := by rw [← hz1]; rfl
 have t3 : decide (ps = []) = ze := by rw [← hz1]; cases ps <;> rfl
 generalize okP (ps.map Con.plain) = z at CP ⊢
 have HC := Lib.hid CP
 clear CP hf hze
 by_cases hk1 : kind = 1
 ·subst hk1
  cases there
  ·cases ze
   all_goals
    go_enter Try.func34, Try.ntmps34
    go_wp2_with fail
    go_ret
    exact ⟨ret_bool (by rfl), K.out⟩
  ·go_enter Try.func34, Try.ntmps34
   go_wp2_with fail
   refine HC.out.mono ?_
   rintro e w1 ⟨rfl, k1⟩
   have K1 := Lib.hid (K.out.trans k1)
   clear k1
   go_wp2_with fail
   go_ret
   exact ⟨ret_bool (by rfl), K1.out⟩
 ·have t : (kind == 1) = false := by rw [beq_eq_false_iff_ne]; exact hk1
  have t' : (kind != 1) = true := by rw [bne_iff_ne]; exact hk1
  rw [t, t']
  clear hk1
  go_enter Try.func34, Try.ntmps34
  go_wp2_with fail
  refine HC.out.mono ?_
  rintro e w1 ⟨rfl, k1⟩
  have K1 := Lib.hid (K.out.trans k1)
  clear k1
  go_wp2_with fail
  go_ret
  exact ⟨ret_bool (by rfl), K1.out⟩

set_option maxRecDepth 100000 in
set_option maxHeartbeats 2000000 in
theorem right4 (m : Ms) (w : World) (h : m.fine w) : Calls Try.prog 34 #[.agg m.cells.toArray, .int .i64 4] w fun e w' => e = .returned (.bool (rightM m.plain 4)) ∧ Old w w' := by
 obtain ⟨kind, pub, ver, there, pv, ps, ⟨n, tm, key, av, es⟩, tb, tl, tc, frm, ⟨fr, en, iv, its, gv, gs, last⟩⟩ := m
 obtain ⟨p1, c1, e1, _, r1⟩ := h.1.1.1.len
 obtain ⟨p2, c2, e2, _, _⟩ := h.2.1.1.len
 obtain ⟨p3, c3, e3, _, _⟩ := h.2.2.1.1.1.len
 obtain ⟨p4, c4, e4, _, _⟩ := h.2.2.1.1.2.2.len
 simp only at e1 e2 e3 e4
 subst e1 e2 e3 e4
 have hps : ps.length ≤ 9223372036854775807 := by have := h.1.1.1.len; obtain ⟨_, c, e, h1, h2⟩ := this; unfold maxLen at h2; simp only at h1; omega
 unfold Ms.cells
 simp only
 obtain ⟨W0, hW0⟩ : ∃ W0, w.alloc (.cells #[.int .i64 kind, .int .i64 pub, .int .u64 ver, .bool there, .slice p1 ps.length c1, .int .u64 n, .int .u64 tm, .string key, .slice p2 es.length c2, .int .i64 tb, .int .u64 tl, .int .u64 tc, .int .u64 frm, .int .u64 fr, .int .u64 en, .slice p3 its.length c3, .slice p4 gs.length c4, .bool last] 43) = W0 := ⟨_, rfl⟩
 have k0 : Old w W0 := by rw [← hW0]; exact (Keeps.refl _ _).alloc _
 have b0 : W0.heap[w.heap.size]? = some (.cells #[.int .i64 kind, .int .i64 pub, .int .u64 ver, .bool there, .slice p1 ps.length c1, .int .u64 n, .int .u64 tm, .string key, .slice p2 es.length c2, .int .i64 tb, .int .u64 tl, .int .u64 tc, .int .u64 frm, .int .u64 fr, .int .u64 en, .slice p3 its.length c3, .slice p4 gs.length c4, .bool last] 43 (0, 0)) := by rw [← hW0]; exact heap_alloc_new _ _
 have g := blkM b0
 have hf := Ms.fine.old h k0
 have K := Lib.hid k0
 obtain ⟨⟨h1, _⟩, h2, h3, ⟨hk64, hp64, ht64⟩, hv64, hl64, hc64, hf64⟩ := h
 unfold I64 at hk64 hp64 ht64
 unfold U64 at hv64 hl64 hc64 hf64
 simp only at hk64 hp64 ht64 hv64 hl64 hc64 hf64
 clear r1 k0 b0 h1 h2 h3
 unfold Ms.plain rightM
 simp only [show ¬ ((4 : Int) = 0) by decide, if_false, show ¬ ((4 : Int) = 1) by decide, show ¬ ((4 : Int) = 3) by decide, if_true]
 have CI := may_item_any _ W0 hf.2.1
 unfold It.cells at CI
 simp only at CI
 generalize itOk (It.plain ⟨n, tm, key, .slice p2 es.length c2, es⟩) = z at CI ⊢
 have HC := Lib.hid CI
 clear CI hf
 go_enter Try.func34, Try.ntmps34
 go_wp2_with fail
 refine HC.out.mono ?_
 rintro e w1 ⟨rfl, k1⟩
 have K1 := Lib.hid (K.out.trans k1)
 clear k1
 go_wp2_with fail
 go_ret
 exact ⟨rfl, K1.out⟩

set_option maxRecDepth 100000 in
set_option maxHeartbeats 2000000 in
theorem right5 (m : Ms) (w : World) (h : m.fine w) : Calls Try.prog 34 #[.agg m.cells.toArray, .int .i64 5] w fun e w' => e = .returned (.bool (rightM m.plain 5)) ∧ Old w w' := by
 obtain ⟨kind, pub, ver, there, pv, ps, ⟨n, tm, key, av, es⟩, tb, tl, tc, frm, ⟨fr, en, iv, its, gv, gs, last⟩⟩ := m
 obtain ⟨p1, c1, e1, _, r1⟩ := h.1.1.1.len
 obtain ⟨p2, c2, e2, _, _⟩ := h.2.1.1.len
 obtain ⟨p3, c3, e3, _, _⟩ := h.2.2.1.1.1.len
 obtain ⟨p4, c4, e4, _, _⟩ := h.2.2.1.1.2.2.len
 simp only at e1 e2 e3 e4
 subst e1 e2 e3 e4
 have hps : ps.length ≤ 9223372036854775807 := by have := h.1.1.1.len; obtain ⟨_, c, e, h1, h2⟩ := this; unfold maxLen at h2; simp only at h1; omega
 unfold Ms.cells
 simp only
 obtain ⟨W0, hW0⟩ : ∃ W0, w.alloc (.cells #[.int .i64 kind, .int .i64 pub, .int .u64 ver, .bool there, .slice p1 ps.length c1, .int .u64 n, .int .u64 tm, .string key, .slice p2 es.length c2, .int .i64 tb, .int .u64 tl, .int .u64 tc, .int .u64 frm, .int .u64 fr, .int .u64 en, .slice p3 its.length c3, .slice p4 gs.length c4, .bool last] 43) = W0 := ⟨_, rfl⟩
 have k0 : Old w W0 := by rw [← hW0]; exact (Keeps.refl _ _).alloc _
 have b0 : W0.heap[w.heap.size]? = some (.cells #[.int .i64 kind, .int .i64 pub, .int .u64 ver, .bool there, .slice p1 ps.length c1, .int .u64 n, .int .u64 tm, .string key, .slice p2 es.length c2, .int .i64 tb, .int .u64 tl, .int .u64 tc, .int .u64 frm, .int .u64 fr, .int .u64 en, .slice p3 its.length c3, .slice p4 gs.length c4, .bool last] 43 (0, 0)) := by rw [← hW0]; exact heap_alloc_new _ _
 have g := blkM b0
 have hf := Ms.fine.old h k0
 have K := Lib.hid k0
 obtain ⟨⟨h1, _⟩, h2, h3, ⟨hk64, hp64, ht64⟩, hv64, hl64, hc64, hf64⟩ := h
 unfold I64 at hk64 hp64 ht64
 unfold U64 at hv64 hl64 hc64 hf64
 simp only at hk64 hp64 ht64 hv64 hl64 hc64 hf64
 clear r1 k0 b0 h1 h2 h3
 unfold Ms.plain rightM
 simp only [show ¬ ((5 : Int) = 0) by decide, if_false, show ¬ ((5 : Int) = 1) by decide, show ¬ ((5 : Int) = 3) by decide, show ¬ ((5 : Int) = 4) by decide, if_true]
 clear hf
 have CL := number_ok_any tl
 have CC := number_ok_any tc
 generalize numOk tl = zl at CL ⊢
 generalize numOk tc = zc at CC ⊢
 obtain ⟨z1, t1⟩ : ∃ b, decide (0 ≤ tb) = b := ⟨_, rfl⟩
 obtain ⟨z2, t2⟩ : ∃ b, decide (tb < 64) = b := ⟨_, rfl⟩
 rw [t1, t2]
 have HL := Lib.hid CL
 have HC := Lib.hid CC
 clear CL CC
 cases z1
 ·go_enter Try.func34, Try.ntmps34
  go_wp2_with fail
  go_ret
  exact ⟨rfl, K.out⟩
 cases z2
 ·go_enter Try.func34, Try.ntmps34
  go_wp2_with fail
  go_ret
  exact ⟨rfl, K.out⟩
 cases zl
 ·go_enter Try.func34, Try.ntmps34
  go_wp2_with fail
  refine (HL.out _).mono ?_
  rintro e w1 ⟨rfl, rfl⟩
  go_wp2_with fail
  go_ret
  exact ⟨rfl, K.out⟩
 ·go_enter Try.func34, Try.ntmps34
  go_wp2_with fail
  refine (HL.out _).mono ?_
  rintro e w1 ⟨rfl, rfl⟩
  go_wp2_with fail
  refine (HC.out _).mono ?_
  rintro e w1 ⟨rfl, rfl⟩
  go_wp2_with fail
  go_ret
  exact ⟨rfl, K.out⟩

set_option maxRecDepth 100000 in
set_option maxHeartbeats 2000000 in
theorem right6 (m : Ms) (w : World) (h : m.fine w) : Calls Try.prog 34 #[.agg m.cells.toArray, .int .i64 6] w fun e w' => e = .returned (.bool (rightM m.plain 6)) ∧ Old w w' := by
 obtain ⟨kind, pub, ver, there, pv, ps, ⟨n, tm, key, av, es⟩, tb, tl, tc, frm, ⟨fr, en, iv, its, gv, gs, last⟩⟩ := m
 obtain ⟨p1, c1, e1, _, r1⟩ := h.1.1.1.len
 obtain ⟨p2, c2, e2, _, _⟩ := h.2.1.1.len
 obtain ⟨p3, c3, e3, _, _⟩ := h.2.2.1.1.1.len
 obtain ⟨p4, c4, e4, _, _⟩ := h.2.2.1.1.2.2.len
 simp only at e1 e2 e3 e4
 subst e1 e2 e3 e4
 have hps : ps.length ≤ 9223372036854775807 := by have := h.1.1.1.len; obtain ⟨_, c, e, h1, h2⟩ := this; unfold maxLen at h2; simp only at h1; omega
 unfold Ms.cells
 simp only
 obtain ⟨W0, hW0⟩ : ∃ W0, w.alloc (.cells #[.int .i64 kind, .int .i64 pub, .int .u64 ver, .bool there, .slice p1 ps.length c1, .int .u64 n, .int .u64 tm, .string key, .slice p2 es.length c2, .int .i64 tb, .int .u64 tl, .int .u64 tc, .int .u64 frm, .int .u64 fr, .int .u64 en, .slice p3 its.length c3, .slice p4 gs.length c4, .bool last] 43) = W0 := ⟨_, rfl⟩
 have k0 : Old w W0 := by rw [← hW0]; exact (Keeps.refl _ _).alloc _
 have b0 : W0.heap[w.heap.size]? = some (.cells #[.int .i64 kind, .int .i64 pub, .int .u64 ver, .bool there, .slice p1 ps.length c1, .int .u64 n, .int .u64 tm, .string key, .slice p2 es.length c2, .int .i64 tb, .int .u64 tl, .int .u64 tc, .int .u64 frm, .int .u64 fr, .int .u64 en, .slice p3 its.length c3, .slice p4 gs.length c4, .bool last] 43 (0, 0)) := by rw [← hW0]; exact heap_alloc_new _ _
 have g := blkM b0
 have hf := Ms.fine.old h k0
 have K := Lib.hid k0
 obtain ⟨⟨h1, _⟩, h2, h3, ⟨hk64, hp64, ht64⟩, hv64, hl64, hc64, hf64⟩ := h
 unfold I64 at hk64 hp64 ht64
 unfold U64 at hv64 hl64 hc64 hf64
 simp only at hk64 hp64 ht64 hv64 hl64 hc64 hf64
 clear r1 k0 b0 h1 h2 h3
 unfold Ms.plain rightM
 simp only [show ¬ ((6 : Int) = 0) by decide, if_false, show ¬ ((6 : Int) = 1) by decide, show ¬ ((6 : Int) = 3) by decide, show ¬ ((6 : Int) = 4) by decide, show ¬ ((6 : Int) = 5) by decide, if_true]
 clear hf
 obtain ⟨z1, t1⟩ : ∃ b, decide (1 ≤ frm) = b := ⟨_, rfl⟩
 obtain ⟨z2, t2⟩ : ∃ b, decide (frm ≤ 1099511627777) = b := ⟨_, rfl⟩
 have u1 : decide ((1 : Int) ≤ (frm : Int)) = z1 := by rw [← t1, decide_eq_decide]; omega
 have u1' : decide (0 < frm) = z1 := by rw [← t1, decide_eq_decide]; omega
 have u2 : decide ((frm : Int) ≤ 1099511627777) = z2 := by rw [← t2, decide_eq_decide]; omega
 rw [t1, t2]
 cases z1
 all_goals
  go_enter Try.func34, Try.ntmps34
  go_wp2_with fail
  go_ret
  exact ⟨rfl, K.out⟩

set_option maxRecDepth 100000 in
set_option maxHeartbeats 2000000 in
theorem right7 (m : Ms) (w : World) (h : m.fine w) : Calls Try.prog 34 #[.agg m.cells.toArray, .int .i64 7] w fun e w' => e = .returned (.bool (rightM m.plain 7)) ∧ Old w w' := by
 obtain ⟨kind, pub, ver, there, pv, ps, ⟨n, tm, key, av, es⟩, tb, tl, tc, frm, ⟨fr, en, iv, its, gv, gs, last⟩⟩ := m
 obtain ⟨p1, c1, e1, _, r1⟩ := h.1.1.1.len
 obtain ⟨p2, c2, e2, _, _⟩ := h.2.1.1.len
 obtain ⟨p3, c3, e3, _, _⟩ := h.2.2.1.1.1.len
 obtain ⟨p4, c4, e4, _, _⟩ := h.2.2.1.1.2.2.len
 simp only at e1 e2 e3 e4
 subst e1 e2 e3 e4
 have hps : ps.length ≤ 9223372036854775807 := by have := h.1.1.1.len; obtain ⟨_, c, e, h1, h2⟩ := this; unfold maxLen at h2; simp only at h1; omega
 unfold Ms.cells
 simp only
 obtain ⟨W0, hW0⟩ : ∃ W0, w.alloc (.cells #[.int .i64 kind, .int .i64 pub, .int .u64 ver, .bool there, .slice p1 ps.length c1, .int .u64 n, .int .u64 tm, .string key, .slice p2 es.length c2, .int .i64 tb, .int .u64 tl, .int .u64 tc, .int .u64 frm, .int .u64 fr, .int .u64 en, .slice p3 its.length c3, .slice p4 gs.length c4, .bool last] 43) = W0 := ⟨_, rfl⟩
 have k0 : Old w W0 := by rw [← hW0]; exact (Keeps.refl _ _).alloc _
 have b0 : W0.heap[w.heap.size]? = some (.cells #[.int .i64 kind, .int .i64 pub, .int .u64 ver, .bool there, .slice p1 ps.length c1, .int .u64 n, .int .u64 tm, .string key, .slice p2 es.length c2, .int .i64 tb, .int .u64 tl, .int .u64 tc, .int .u64 frm, .int .u64 fr, .int .u64 en, .slice p3 its.length c3, .slice p4 gs.length c4, .bool last] 43 (0, 0)) := by rw [← hW0]; exact heap_alloc_new _ _
 have g := blkM b0
 have hf := Ms.fine.old h k0
 have K := Lib.hid k0
 obtain ⟨⟨h1, _⟩, h2, h3, ⟨hk64, hp64, ht64⟩, hv64, hl64, hc64, hf64⟩ := h
 unfold I64 at hk64 hp64 ht64
 unfold U64 at hv64 hl64 hc64 hf64
 simp only at hk64 hp64 ht64 hv64 hl64 hc64 hf64
 clear r1 k0 b0 h1 h2 h3
 unfold Ms.plain rightM
 simp only [show ¬ ((7 : Int) = 0) by decide, if_false, show ¬ ((7 : Int) = 1) by decide, show ¬ ((7 : Int) = 3) by decide, show ¬ ((7 : Int) = 4) by decide, show ¬ ((7 : Int) = 5) by decide, show ¬ ((7 : Int) = 6) by decide, if_true]
 have CI := may_page_any _ W0 hf.2.2.1
 unfold Pg.cells at CI
 simp only at CI
 generalize pgOk (Pg.plain ⟨fr, en, .slice p3 its.length c3, its, .slice p4 gs.length c4, gs, last⟩) = z at CI ⊢
 have HC := Lib.hid CI
 clear CI hf
 go_enter Try.func34, Try.ntmps34
 go_wp2_with fail
 refine HC.out.mono ?_
 rintro e w1 ⟨rfl, k1⟩
 have K1 := Lib.hid (K.out.trans k1)
 clear k1
 go_wp2_with fail
 go_ret
 exact ⟨rfl, K1.out⟩

theorem right_any (m : Ms) (p : Int) (w : World) (h : m.fine w) (hp : 0 ≤ p ∧ p ≤ 7) : Calls Try.prog 34 #[.agg m.cells.toArray, .int .i64 p] w fun e w' => e = .returned (.bool (rightM m.plain p)) ∧ Old w w' := by
 obtain rfl | rfl | rfl | rfl | rfl | rfl | rfl | rfl : p = 0 ∨ p = 1 ∨ p = 2 ∨ p = 3 ∨ p = 4 ∨ p = 5 ∨ p = 6 ∨ p = 7 := by omega
 ·exact right0 m w h
 ·exact right1 m w h
 ·exact right2 m w h
 ·exact right3 m w h
 ·exact right4 m w h
 ·exact right5 m w h
 ·exact right6 m w h
 ·exact right7 m w h
end Go.Proofs.Ytiednihagnehlaa
