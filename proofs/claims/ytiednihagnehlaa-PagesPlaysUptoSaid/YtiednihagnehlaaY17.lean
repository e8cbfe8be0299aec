/- DERIVED. Chapter 21: msg.bare, msg.May. · DERIVED. Chapter 21: msg.May. · DERIVED. Chapter 21: msg.Put's two closures. -/
import Derived.Test.YtiednihagnehlaaY16
import Derived.Deep.WholeRow
namespace Go.Proofs.Ytiednihagnehlaa
open Go.RowKit

set_option maxRecDepth 100000 in
set_option maxHeartbeats 2000000 in
theorem bare0 (m : Ms) (w : World) (h : m.fine w) : Calls Try.prog 35 #[.agg m.cells.toArray, .int .i64 0] w fun e w' => e = .returned (.bool (bareM m.plain 0)) ∧ Old w w' := by
 obtain ⟨kind, pub, ver, there, pv, ps, ⟨n, tm, key, av, es⟩, tb, tl, tc, frm, ⟨fr, en, iv, its, gv, gs, last⟩⟩ := m
 obtain ⟨p1, c1, e1, _, r1⟩ := h.1.1.1.len
 obtain ⟨p2, c2, e2, _, _⟩ := h.2.1.1.len
 obtain ⟨p3, c3, e3, _, _⟩ := h.2.2.1.1.1.len
 obtain ⟨p4, c4, e4, _, _⟩ := h.2.2.1.1.2.2.len
 simp only at e1 e2 e3 e4
 subst e1 e2 e3 e4
 have hps : ps.length ≤ 9223372036854775807 := by have := h.1.1.1.len; obtain ⟨_, c, e, h1, h2⟩ := this; unfold maxLen at h2; simp only at h1; omega
 unfold Ms.cells
 simp only
 obtain ⟨W0, hW0⟩ : ∃ W0, w.alloc (.cells #[.int .i64 kind, .int .i64 pub, .int .u64 ver, .bool there, .slice p1 ps.length c1, .int .u64 n, .int .u64 tm, .string key, .slice p2 es.length c2, .int .i64 tb, .int .u64 tl, .int .u64 tc, .int .u64 frm, .int .u64 fr, .int .u64 en, .slice p3 its.length c3, .slice p4 gs.length c4, .bool last] 43) = W0 := ⟨_, rfl⟩
 have k0 : Old w W0 := by rw [← hW0]; exact (Keeps.refl _ _).alloc _
 have b0 : W0.heap[w.heap.size]? = some (.cells #[.int .i64 kind, .int .i64 pub, .int .u64 ver, .bool there, .slice p1 ps.length c1, .int .u64 n, .int .u64 tm, .string key, .slice p2 es.length c2, .int .i64 tb, .int .u64 tl, .int .u64 tc, .int .u64 frm, .int .u64 fr, .int .u64 en, .slice p3 its.length c3, .slice p4 gs.length c4, .bool last] 43 (0, 0)) := by rw [← hW0]; exact heap_alloc_new _ _
 have g := blkM b0
 have hf := Ms.fine.old h k0
 have K := Lib.hid k0
 obtain ⟨⟨h1, _⟩, h2, h3, ⟨hk64, hp64, ht64⟩, hv64, hl64, hc64, hf64⟩ := h
 unfold I64 at hk64 hp64 ht64
 unfold U64 at hv64 hl64 hc64 hf64
 simp only at hk64 hp64 ht64 hv64 hl64 hc64 hf64
 clear r1 k0 b0 h1 h2 h3
 unfold Ms.plain bareM
 simp only [if_true]
 clear hf
 obtain ⟨z, tz⟩ : ∃ b, (pub == 0) = b := ⟨_, rfl⟩
 rw [tz]
 go_enter Try.func35, Try.ntmps35
 go_wp2_with fail
 go_ret
 exact ⟨rfl, K.out⟩

set_option maxRecDepth 100000 in
set_option maxHeartbeats 2000000 in
theorem bare1 (m : Ms) (w : World) (h : m.fine w) : Calls Try.prog 35 #[.agg m.cells.toArray, .int .i64 1] w fun e w' => e = .returned (.bool (bareM m.plain 1)) ∧ Old w w' := by
 obtain ⟨kind, pub, ver, there, pv, ps, ⟨n, tm, key, av, es⟩, tb, tl, tc, frm, ⟨fr, en, iv, its, gv, gs, last⟩⟩ := m
 obtain ⟨p1, c1, e1, _, r1⟩ := h.1.1.1.len
 obtain ⟨p2, c2, e2, _, _⟩ := h.2.1.1.len
 obtain ⟨p3, c3, e3, _, _⟩ := h.2.2.1.1.1.len
 obtain ⟨p4, c4, e4, _, _⟩ := h.2.2.1.1.2.2.len
 simp only at e1 e2 e3 e4
 subst e1 e2 e3 e4
 have hps : ps.length ≤ 9223372036854775807 := by have := h.1.1.1.len; obtain ⟨_, c, e, h1, h2⟩ := this; unfold maxLen at h2; simp only at h1; omega
 unfold Ms.cells
 simp only
 obtain ⟨W0, hW0⟩ : ∃ W0, w.alloc (.cells #[.int .i64 kind, .int .i64 pub, .int .u64 ver, .bool there, .slice p1 ps.length c1, .int .u64 n, .int .u64 tm, .string key, .slice p2 es.length c2, .int .i64 tb, .int .u64 tl, .int .u64 tc, .int .u64 frm, .int .u64 fr, .int .u64 en, .slice p3 its.length c3, .slice p4 gs.length c4, .bool last] 43) = W0 := ⟨_, rfl⟩
 have k0 : Old w W0 := by rw [← hW0]; exact (Keeps.refl _ _).alloc _
 have b0 : W0.heap[w.heap.size]? = some (.cells #[.int .i64 kind, .int .i64 pub, .int .u64 ver, .bool there, .slice p1 ps.length c1, .int .u64 n, .int .u64 tm, .string key, .slice p2 es.length c2, .int .i64 tb, .int .u64 tl, .int .u64 tc, .int .u64 frm, .int .u64 fr, .int .u64 en, .slice p3 its.length c3, .slice p4 gs.length c4, .bool last] 43 (0, 0)) := by rw [← hW0]; exact heap_alloc_new _ _
 have g := blkM b0
 have hf := Ms.fine.old h k0
 have K := Lib.hid k0
 obtain ⟨⟨h1, _⟩, h2, h3, ⟨hk64, hp64, ht64⟩, hv64, hl64, hc64, hf64⟩ := h
 unfold I64 at hk64 hp64 ht64
 unfold U64 at hv64 hl64 hc64 hf64
 simp only at hk64 hp64 ht64 hv64 hl64 hc64 hf64
 clear r1 k0 b0 h1 h2 h3
 unfold Ms.plain bareM
 simp only [if_false, show ¬ ((1 : Int) = 0) by decide, if_true]
 clear hf
 obtain ⟨z, tz⟩ : ∃ b, (ver == 0) = b := ⟨_, rfl⟩
 have uz : ((ver : Int) == 0) = z := by rw [← tz, Bool.eq_iff_iff, beq_iff_eq, beq_iff_eq]; omega
 have vz : decide (ver = 0) = z := by rw [← tz]; rfl
 rw [tz]
 go_enter Try.func35, Try.ntmps35
 go_wp2_with fail
 go_ret
 exact ⟨rfl, K.out⟩

set_option maxRecDepth 100000 in
set_option maxHeartbeats 2000000 in
theorem bare2 (m : Ms) (w : World) (h : m.fine w) : Calls Try.prog 35 #[.agg m.cells.toArray, .int .i64 2] w fun e w' => e = .returned (.bool (bareM m.plain 2)) ∧ Old w w' := by
 obtain ⟨kind, pub, ver, there, pv, ps, ⟨n, tm, key, av, es⟩, tb, tl, tc, frm, ⟨fr, en, iv, its, gv, gs, last⟩⟩ := m
 obtain ⟨p1, c1, e1, _, r1⟩ := h.1.1.1.len
 obtain ⟨p2, c2, e2, _, _⟩ := h.2.1.1.len
 obtain ⟨p3, c3, e3, _, _⟩ := h.2.2.1.1.1.len
 obtain ⟨p4, c4, e4, _, _⟩ := h.2.2.1.1.2.2.len
 simp only at e1 e2 e3 e4
 subst e1 e2 e3 e4
 have hps : ps.length ≤ 9223372036854775807 := by have := h.1.1.1.len; obtain ⟨_, c, e, h1, h2⟩ := this; unfold maxLen at h2; simp only at h1; omega
 unfold Ms.cells
 simp only
 obtain ⟨W0, hW0⟩ : ∃ W0, w.alloc (.cells #[.int .i64 kind, .int .i64 pub, .int .u64 ver, .bool there, .slice p1 ps.length c1, .int .u64 n, .int .u64 tm, .string key, .slice p2 es.length c2, .int .i64 tb, .int .u64 tl, .int .u64 tc, .int .u64 frm, .int .u64 fr, .int .u64 en, .slice p3 its.length c3, .slice p4 gs.length c4, .bool last] 43) = W0 := ⟨_, rfl⟩
 have k0 : Old w W0 := by rw [← hW0]; exact (Keeps.refl _ _).alloc _
 have b0 : W0.heap[w.heap.size]? = some (.cells #[.int .i64 kind, .int .i64 pub, .int .u64 ver, .bool there, .slice p1 ps.length c1, .int .u64 n, .int .u64 tm, .string key, .slice p2 es.length c2, .int .i64 tb, .int .u64 tl, .int .u64 tc, .int .u64 frm, .int .u64 fr, .int .u64 en, .slice p3 its.length c3, .slice p4 gs.length c4, .bool last] 43 (0, 0)) := by rw [← hW0]; exact heap_alloc_new _ _
 have g := blkM b0
 have hf := Ms.fine.old h k0
 have K := Lib.hid k0
 obtain ⟨⟨h1, _⟩, h2, h3, ⟨hk64, hp64, ht64⟩, hv64, hl64, hc64, hf64⟩ := h
 unfold I64 at hk64 hp64 ht64
 unfold U64 at hv64 hl64 hc64 hf64
 simp only at hk64 hp64 ht64 hv64 hl64 hc64 hf64
 clear r1 k0 b0 h1 h2 h3
 unfold Ms.plain bareM
 simp only [if_false, show ¬ ((2 : Int) = 0) by decide, show ¬ ((2 : Int) = 1) by decide, if_true]
 clear hf
 go_enter Try.func35, Try.ntmps35
 go_wp2_with fail
 go_ret
 exact ⟨rfl, K.out⟩

set_option maxRecDepth 100000 in
set_option maxHeartbeats 2000000 in
theorem bare3 (m : Ms) (w : World) (h : m.fine w) : Calls Try.prog 35 #[.agg m.cells.toArray, .int .i64 3] w fun e w' => e = .returned (.bool (bareM m.plain 3)) ∧ Old w w' := by
 obtain ⟨kind, pub, ver, there, pv, ps, ⟨n, tm, key, av, es⟩, tb, tl, tc, frm, ⟨fr, en, iv, its, gv, gs, last⟩⟩ := m
 obtain ⟨p1, c1, e1, _, r1⟩ := h.1.1.1.len
 obtain ⟨p2, c2, e2, _, _⟩ := h.2.1.1.len
 obtain ⟨p3, c3, e3, _, _⟩ := h.2.2.1.1.1.len
 obtain ⟨p4, c4, e4, _, _⟩ := h.2.2.1.1.2.2.len
 simp only at e1 e2 e3 e4
 subst e1 e2 e3 e4
 have hps : ps.length ≤ 9223372036854775807 := by have := h.1.1.1.len; obtain ⟨_, c, e, h1, h2⟩ := this; unfold maxLen at h2; simp only at h1; omega
 unfold Ms.cells
 simp only
 obtain ⟨W0, hW0⟩ : ∃ W0, w.alloc (.cells #[.int .i64 kind, .int .i64 pub, .int .u64 ver, .bool there, .slice p1 ps.length c1, .int .u64 n, .int .u64 tm, .string key, .slice p2 es.length c2, .int .i64 tb, .int .u64 tl, .int .u64 tc, .int .u64 frm, .int .u64 fr, .int .u64 en, .slice p3 its.length c3, .slice p4 gs.length c4, .bool last] 43) = W0 := ⟨_, rfl⟩
 have k0 : Old w W0 := by rw [← hW0]; exact (Keeps.refl _ _).alloc _
 have b0 : W0.heap[w.heap.size]? = some (.cells #[.int .i64 kind, .int .i64 pub, .int .u64 ver, .bool there, .slice p1 ps.length c1, .int .u64 n, .int .u64 tm, .string key, .slice p2 es.length c2, .int .i64 tb, .int .u64 tl, .int .u64 tc, .int .u64 frm, .int .u64 fr, .int .u64 en, .slice p3 its.length c3, .slice p4 gs.length c4, .bool last] 43 (0, 0)) := by rw [← hW0]; exact heap_alloc_new _ _
 have g := blkM b0
 have hf := Ms.fine.old h k0
 have K := Lib.hid k0
 obtain ⟨⟨h1, _⟩, h2, h3, ⟨hk64, hp64, ht64⟩, hv64, hl64, hc64, hf64⟩ := h
 unfold I64 at hk64 hp64 ht64
 unfold U64 at hv64 hl64 hc64 hf64
 simp only at hk64 hp64 ht64 hv64 hl64 hc64 hf64
 clear r1 k0 b0 h1 h2 h3
 unfold Ms.plain bareM
 simp only [if_false, show ¬ ((3 : Int) = 0) by decide, show ¬ ((3 : Int) = 1) by decide, show ¬ ((3 : Int) = 2) by decide, if_true]
 obtain ⟨ze, hze⟩ : ∃ b, (ps.map Con.plain).isEmpty = b := ⟨_, rfl⟩
 rw [hze]
 have hz1 : decide (ps.length = 0) = ze := by rw [← hze]; cases ps <;> rfl
 have t : ((ps.length : Int) == 0) = ze := by rw [← hz1, Bool.eq_iff_iff, beq_iff_eq, decide_eq_true_eq]; omega
 have t2 : (ps.length == 0) = ze := by rw [← hz1]; rfl
 have t3 : decide (ps = []) = ze := by rw [← hz1]; cases ps <;> rfl
 clear hf hze
 go_enter Try.func35, Try.ntmps35
 go_wp2_with fail
 go_ret
 exact ⟨rfl, K.out⟩

set_option maxRecDepth 100000 in
set_option maxHeartbeats 2000000 in
theorem bare4 (m : Ms) (w : World) (h : m.fine w) : Calls Try.prog 35 #[.agg m.cells.toArray, .int .i64 4] w fun e w' => e = .returned (.bool (bareM m.plain 4)) ∧ Old w w' := by
 obtain ⟨kind, pub, ver, there, pv, ps, ⟨n, tm, key, av, es⟩, tb, tl, tc, frm, ⟨fr, en, iv, its, gv, gs, last⟩⟩ := m
 obtain ⟨p1, c1, e1, _, r1⟩ := h.1.1.1.len
 obtain ⟨p2, c2, e2, _, _⟩ := h.2.1.1.len
 obtain ⟨p3, c3, e3, _, _⟩ := h.2.2.1.1.1.len
 obtain ⟨p4, c4, e4, _, _⟩ := h.2.2.1.1.2.2.len
 simp only at e1 e2 e3 e4
 subst e1 e2 e3 e4
 have hps : ps.length ≤ 9223372036854775807 := by have := h.1.1.1.len; obtain ⟨_, c, e, h1, h2⟩ := this; unfold maxLen at h2; simp only at h1; omega
 unfold Ms.cells
 simp only
 obtain ⟨W0, hW0⟩ : ∃ W0, w.alloc (.cells #[.int .i64 kind, .int .i64 pub, .int .u64 ver, .bool there, .slice p1 ps.length c1, .int .u64 n, .int .u64 tm, .string key, .slice p2 es.length c2, .int .i64 tb, .int .u64 tl, .int .u64 tc, .int .u64 frm, .int .u64 fr, .int .u64 en, .slice p3 its.length c3, .slice p4 gs.length c4, .bool last] 43) = W0 := ⟨_, rfl⟩
 have k0 : Old w W0 := by rw [← hW0]; exact (Keeps.refl _ _).alloc _
 have b0 : W0.heap[w.heap.size]? = some (.cells #[.int .i64 kind, .int .i64 pub, .int .u64 ver, .bool there, .slice p1 ps.length c1, .int .u64 n, .int .u64 tm, .string key, .slice p2 es.length c2, .int .i64 tb, .int .u64 tl, .int .u64 tc, .int .u64 frm, .int .u64 fr, .int .u64 en, .slice p3 its.length c3, .slice p4 gs.length c4, .bool last] 43 (0, 0)) := by rw [← hW0]; exact heap_alloc_new _ _
 have g := blkM b0
 have hf := Ms.fine.old h k0
 have K := Lib.hid k0
 obtain ⟨⟨h1, _⟩, h2, h3, ⟨hk64, hp64, ht64⟩, hv64, hl64, hc64, hf64⟩ := h
 unfold I64 at hk64 hp64 ht64
 unfold U64 at hv64 hl64 hc64 hf64
 simp only at hk64 hp64 ht64 hv64 hl64 hc64 hf64
 clear r1 k0 b0 h1 h2 h3
 unfold Ms.plain bareM
 simp only [if_false, show ¬ ((4 : Int) = 0) by decide, show ¬ ((4 : Int) = 1) by decide, show ¬ ((4 : Int) = 2) by decide, show ¬ ((4 : Int) = 3) by decide, if_true]
 have CI := msg_same_item_any ⟨n, tm, key, .slice p2 es.length c2, es⟩ ⟨0, 0, ⟨#[]⟩, .slice none 0 0, []⟩ W0 hf.2.1.1 (SeesR.nil _)
 unfold It.cells at CI
 simp only at CI
 rw [show It.plain ⟨0, 0, ⟨#[]⟩, .slice none 0 0, []⟩ = noItem from rfl] at CI
 generalize sameI (It.plain ⟨n, tm, key, .slice p2 es.length c2, es⟩) noItem = z at CI ⊢
 have HC := Lib.hid CI
 clear CI hf
 go_enter Try.func35, Try.ntmps35
 go_wp2_with fail
 refine HC.out.mono ?_
 rintro e w1 ⟨rfl, k1⟩
 have K1 := Lib.hid (K.out.trans k1)
 clear k1
 go_wp2_with fail
 go_ret
 exact ⟨rfl, K1.out⟩

set_option maxRecDepth 100000 in
set_option maxHeartbeats 2000000 in
theorem bare5 (m : Ms) (w : World) (h : m.fine w) : Calls Try.prog 35 #[.agg m.cells.toArray, .int .i64 5] w fun e w' => e = .returned (.bool (bareM m.plain 5)) ∧ Old w w' := by
 obtain ⟨kind, pub, ver, there, pv, ps, ⟨n, tm, key, av, es⟩, tb, tl, tc, frm, ⟨fr, en, iv, its, gv, gs, last⟩⟩ := m
 obtain ⟨p1, c1, e1, _, r1⟩ := h.1.1.1.len
 obtain ⟨p2, c2, e2, _, _⟩ := h.2.1.1.len
 obtain ⟨p3, c3, e3, _, _⟩ := h.2.2.1.1.1.len
 obtain ⟨p4, c4, e4, _, _⟩ := h.2.2.1.1.2.2.len
 simp only at e1 e2 e3 e4
 subst e1 e2 e3 e4
 have hps : ps.length ≤ 9223372036854775807 := by have := h.1.1.1.len; obtain ⟨_, c, e, h1, h2⟩ := this; unfold maxLen at h2; simp only at h1; omega
 unfold Ms.cells
 simp only
 obtain ⟨W0, hW0⟩ : ∃ W0, w.alloc (.cells #[.int .i64 kind, .int .i64 pub, .int .u64 ver, .bool there, .slice p1 ps.length c1, .int .u64 n, .int .u64 tm, .string key, .slice p2 es.length c2, .int .i64 tb, .int .u64 tl, .int .u64 tc, .int .u64 frm, .int .u64 fr, .int .u64 en, .slice p3 its.length c3, .slice p4 gs.length c4, .bool last] 43) = W0 := ⟨_, rfl⟩
 have k0 : Old w W0 := by rw [← hW0]; exact (Keeps.refl _ _).alloc _
 have b0 : W0.heap[w.heap.size]? = some (.cells #[.int .i64 kind, .int .i64 pub, .int .u64 ver, .bool there, .slice p1 ps.length c1, .int .u64 n, .int .u64 tm, .string key, .slice p2 es.length c2, .int .i64 tb, .int .u64 tl, .int .u64 tc, .int .u64 frm, .int .u64 fr, .int .u64 en, .slice p3 its.length c3, .slice p4 gs.length c4, .bool last] 43 (0, 0)) := by rw [← hW0]; exact heap_alloc_new _ _
 have g := blkM b0
 have hf := Ms.fine.old h k0
 have K := Lib.hid k0
 obtain ⟨⟨h1, _⟩, h2, h3, ⟨hk64, hp64, ht64⟩, hv64, hl64, hc64, hf64⟩ := h
 unfold I64 at hk64 hp64 ht64
 unfold U64 at hv64 hl64 hc64 hf64
 simp only at hk64 hp64 ht64 hv64 hl64 hc64 hf64
 clear r1 k0 b0 h1 h2 h3
 unfold Ms.plain bareM
 simp only [if_false, show ¬ ((5 : Int) = 0) by decide, show ¬ ((5 : Int) = 1) by decide, show ¬ ((5 : Int) = 2) by decide, show ¬ ((5 : Int) = 3) by decide, show ¬ ((5 : Int) = 4) by decide, if_true]
 clear hf
 have te := fun W => eql_tok tb 0 tl 0 tc 0 W
 obtain ⟨z1, t1⟩ : ∃ b, (tb == 0) = b := ⟨_, rfl⟩
 obtain ⟨z2, t2⟩ : ∃ b, (tl == 0) = b := ⟨_, rfl⟩
 obtain ⟨z3, t3⟩ : ∃ b, (tc == 0) = b := ⟨_, rfl⟩
 have u2 : ((tl : Int) == 0) = z2 := by rw [← t2, Bool.eq_iff_iff, beq_iff_eq, beq_iff_eq]; omega
 have u3 : ((tc : Int) == 0) = z3 := by rw [← t3, Bool.eq_iff_iff, beq_iff_eq, beq_iff_eq]; omega
 rw [t1, t2, t3]
 rw [t1, u2, u3] at te
 clear t1 t2 t3 u2 u3
 go_enter Try.func35, Try.ntmps35
 go_wp2_with fail
 go_ret
 exact ⟨rfl, K.out⟩

set_option maxRecDepth 100000 in
set_option maxHeartbeats 2000000 in
theorem bare6 (m : Ms) (w : World) (h : m.fine w) : Calls Try.prog 35 #[.agg m.cells.toArray, .int .i64 6] w fun e w' => e = .returned (.bool (bareM m.plain 6)) ∧ Old w w' := by
 obtain ⟨kind, pub, ver, there, pv, ps, ⟨n, tm, key, av, es⟩, tb, tl, tc, frm, ⟨fr, en, iv, its, gv, gs, last⟩⟩ := m
 obtain ⟨p1, c1, e1, _, r1⟩ := h.1.1.1.len
 obtain ⟨p2, c2, e2, _, _⟩ := h.2.1.1.len
 obtain ⟨p3, c3, e3, _, _⟩ := h.2.2.1.1.1.len
 obtain ⟨p4, c4, e4, _, _⟩ := h.2.2.1.1.2.2.len
 simp only at e1 e2 e3 e4
 subst e1 e2 e3 e4
 have hps : ps.length ≤ 9223372036854775807 := by have := h.1.1.1.len; obtain ⟨_, c, e, h1, h2⟩ := this; unfold maxLen at h2; simp only at h1; omega
 unfold Ms.cells
 simp only
 obtain ⟨W0, hW0⟩ : ∃ W0, w.alloc (.cells #[.int .i64 kind, .int .i64 pub, .int .u64 ver, .bool there, .slice p1 ps.length c1, .int .u64 n, .int .u64 tm, .string key, .slice p2 es.length c2, .int .i64 tb, .int .u64 tl, .int .u64 tc, .int .u64 frm, .int .u64 fr, .int .u64 en, .slice p3 its.length c3, .slice p4 gs.length c4, .bool last] 43) = W0 := ⟨_, rfl⟩
 have k0 : Old w W0 := by rw [← hW0]; exact (Keeps.refl _ _).alloc _
 have b0 : W0.heap[w.heap.size]? = some (.cells #[.int .i64 kind, .int .i64 pub, .int .u64 ver, .bool there, .slice p1 ps.length c1, .int .u64 n, .int .u64 tm, .string key, .slice p2 es.length c2, .int .i64 tb, .int .u64 tl, .int .u64 tc, .int .u64 frm, .int .u64 fr, .int .u64 en, .slice p3 its.length c3, .slice p4 gs.length c4, .bool last] 43 (0, 0)) := by rw [← hW0]; exact heap_alloc_new _ _
 have g := blkM b0
 have hf := Ms.fine.old h k0
 have K := Lib.hid k0
 obtain ⟨⟨h1, _⟩, h2, h3, ⟨hk64, hp64, ht64⟩, hv64, hl64, hc64, hf64⟩ := h
 unfold I64 at hk64 hp64 ht64
 unfold U64 at hv64 hl64 hc64 hf64
 simp only at hk64 hp64 ht64 hv64 hl64 hc64 hf64
 clear r1 k0 b0 h1 h2 h3
 unfold Ms.plain bareM
 simp only [if_false, show ¬ ((6 : Int) = 0) by decide, show ¬ ((6 : Int) = 1) by decide, show ¬ ((6 : Int) = 2) by decide, show ¬ ((6 : Int) = 3) by decide, show ¬ ((6 : Int) = 4) by decide, show ¬ ((6 : Int) = 5) by decide, if_true]
 clear hf
 obtain ⟨z, tz⟩ : ∃ b, (frm == 0) = b := ⟨_, rfl⟩
 have uz : ((frm : Int) == 0) = z := by rw [← tz, Bool.eq_iff_iff, beq_iff_eq, beq_iff_eq]; omega
 have vz : decide (frm = 0) = z := by rw [← tz]; rfl
 rw [tz]
 go_enter Try.func35, Try.ntmps35
 go_wp2_with fail
 go_ret
 exact ⟨rfl, K.out⟩

set_option maxRecDepth 100000 in
set_option maxHeartbeats 2000000 in
theorem bare7 (m : Ms) (w : World) (h : m.fine w) : Calls Try.prog 35 #[.agg m.cells.toArray, .int .i64 7] w fun e w' => e = .returned (.bool (bareM m.plain 7)) ∧ Old w w' := by
 obtain ⟨kind, pub, ver, there, pv, ps, ⟨n, tm, key, av, es⟩, tb, tl, tc, frm, ⟨fr, en, iv, its, gv, gs, last⟩⟩ := m
 obtain ⟨p1, c1, e1, _, r1⟩ := h.1.1.1.len
 obtain ⟨p2, c2, e2, _, _⟩ := h.2.1.1.len
 obtain ⟨p3, c3, e3, _, _⟩ := h.2.2.1.1.1.len
 obtain ⟨p4, c4, e4, _, _⟩ := h.2.2.1.1.2.2.len
 simp only at e1 e2 e3 e4
 subst e1 e2 e3 e4
 have hps : ps.length ≤ 9223372036854775807 := by have := h.1.1.1.len; obtain ⟨_, c, e, h1, h2⟩ := this; unfold maxLen at h2; simp only at h1; omega
 unfold Ms.cells
 simp only
 obtain ⟨W0, hW0⟩ : ∃ W0, w.alloc (.cells #[.int .i64 kind, .int .i64 pub, .int .u64 ver, .bool there, .slice p1 ps.length c1, .int .u64 n, .int .u64 tm, .string key, .slice p2 es.length c2, .int .i64 tb, .int .u64 tl, .int .u64 tc, .int .u64 frm, .int .u64 fr, .int .u64 en, .slice p3 its.length c3, .slice p4 gs.length c4, .bool last] 43) = W0 := ⟨_, rfl⟩
 have k0 : Old w W0 := by rw [← hW0]; exact (Keeps.refl _ _).alloc _
 have b0 : W0.heap[w.heap.size]? = some (.cells #[.int .i64 kind, .int .i64 pub, .int .u64 ver, .bool there, .slice p1 ps.length c1, .int .u64 n, .int .u64 tm, .string key, .slice p2 es.length c2, .int .i64 tb, .int .u64 tl, .int .u64 tc, .int .u64 frm, .int .u64 fr, .int .u64 en, .slice p3 its.length c3, .slice p4 gs.length c4, .bool last] 43 (0, 0)) := by rw [← hW0]; exact heap_alloc_new _ _
 have g := blkM b0
 have hf := Ms.fine.old h k0
 have K := Lib.hid k0
 obtain ⟨⟨h1, _⟩, h2, h3, ⟨hk64, hp64, ht64⟩, hv64, hl64, hc64, hf64⟩ := h
 unfold I64 at hk64 hp64 ht64
 unfold U64 at hv64 hl64 hc64 hf64
 simp only at hk64 hp64 ht64 hv64 hl64 hc64 hf64
 clear r1 k0 b0 h1 h2 h3
 unfold Ms.plain bareM
 simp only [if_false, show ¬ ((7 : Int) = 0) by decide, show ¬ ((7 : Int) = 1) by decide, show ¬ ((7 : Int) = 2) by decide, show ¬ ((7 : Int) = 3) by decide, show ¬ ((7 : Int) = 4) by decide, show ¬ ((7 : Int) = 5) by decide, show ¬ ((7 : Int) = 6) by decide]
 have CI := msg_same_page_any ⟨fr, en, .slice p3 its.length c3, its, .slice p4 gs.length c4, gs, last⟩ ⟨0, 0, .slice none 0 0, [], .slice none 0 0, [], false⟩ W0 hf.2.2.1 ⟨⟨SeesR.nil _, fun _ h => (by cases h), SeesR.nil _⟩, fun _ h => (by cases h), ⟨by decide, by decide⟩, fun h => (by simp at h), fun h => (by simp at h)⟩
 unfold Pg.cells at CI
 simp only at CI
 rw [show Pg.plain ⟨0, 0, .slice none 0 0, [], .slice none 0 0, [], false⟩ = noPage from rfl] at CI
 generalize sameG (Pg.plain ⟨fr, en, .slice p3 its.length c3, its, .slice p4 gs.length c4, gs, last⟩) noPage = z at CI ⊢
 have HC := Lib.hid CI
 clear CI hf
 go_enter Try.func35, Try.ntmps35
 go_wp2_with fail
 refine HC.out.mono ?_
 rintro e w1 ⟨rfl, k1⟩
 have K1 := Lib.hid (K.out.trans k1)
 clear k1
 go_wp2_with fail
 go_ret
 exact ⟨rfl, K1.out⟩

theorem bare_any (m : Ms) (p : Int) (w : World) (h : m.fine w) (hp : 0 ≤ p ∧ p ≤ 7) : Calls Try.prog 35 #[.agg m.cells.toArray, .int .i64 p] w fun e w' => e = .returned (.bool (bareM m.plain p)) ∧ Old w w' := by
 obtain rfl | rfl | rfl | rfl | rfl | rfl | rfl | rfl : p = 0 ∨ p = 1 ∨ p = 2 ∨ p = 3 ∨ p = 4 ∨ p = 5 ∨ p = 6 ∨ p = 7 := by omega
 ·exact bare0 m w h
 ·exact bare1 m w h
 ·exact bare2 m w h
 ·exact bare3 m w h
 ·exact bare4 m w h
 ·exact bare5 m w h
 ·exact bare6 m w h
 ·exact bare7 m w h
end Go.Proofs.Ytiednihagnehlaa

namespace Go.Proofs.Ytiednihagnehlaa
open Go.RowKit

attribute [-go_sem] loadVar
/-- a message is read at once -/
theorem load_msg {W : World} {b : Nat} {cs : Array Value} {t : TypeId} {fr : Nat × Nat} (h : W.heap[b]? = some (.cells cs t fr)) (hn : cs.size = 18) : (loadVar 43 ⟨b, 0, none⟩).run Try.prog W = .ok (.agg cs) W :=
 run_loadVar_row W b t 43 cs fr _ h Try.underlying43 rfl (by rw [hn]; kernel_rfl)


/-- is a part as May asks? -/
def partOk (m : PMs) (p : Int) : Bool := if p ∈ partsL m.kind then rightM m p else bareM m p
/-- may it be a message? -/
def mayM (m : PMs) : Bool := ((List.range 8).all fun p => partOk m (p : Int)) && decide (0 < (partsL m.kind).length)
theorem mayM_no {m : PMs} {i : Nat} (hi : i < 8) (h : partOk m (i : Int) = false) : mayM m = false := by
 unfold mayM
 rw [Bool.and_eq_false_iff]
 left
 rw [List.all_eq_false]
 exact ⟨i, by simpa using hi, by simp [h]⟩

set_option maxRecDepth 100000 in
set_option maxHeartbeats 4000000 in
theorem msg_may_any (m : Ms) (w : World) (h : m.fine w) : Calls Try.prog 11 #[.agg m.cells.toArray] w fun e w' => e = .returned (.bool (mayM m.plain)) ∧ Old w w' := by
 have CR := fun W (k : Old w W) p hp => right_any m p W (Ms.fine.old h k) hp
 have CB := fun W (k : Old w W) p hp => bare_any m p W (Ms.fine.old h k) hp
 obtain ⟨pm, hpm⟩ : ∃ q, m.plain = q := ⟨_, rfl⟩
 rw [hpm] at CR CB ⊢
 have hkd : pm.kind = m.kind := by rw [← hpm]; rfl
 obtain ⟨kind, pub, ver, there, pv, ps, ⟨n, tm, key, av, es⟩, tb, tl, tc, frm, ⟨fr, en, iv, its, gv, gs, last⟩⟩ := m
 obtain ⟨p1, c1, e1, _, r1⟩ := h.1.1.1.len
 obtain ⟨p2, c2, e2, _, _⟩ := h.2.1.1.len
 obtain ⟨p3, c3, e3, _, _⟩ := h.2.2.1.1.1.len
 obtain ⟨p4, c4, e4, _, _⟩ := h.2.2.1.1.2.2.len
 simp only at e1 e2 e3 e4
 subst e1 e2 e3 e4
 have hps : ps.length ≤ 9223372036854775807 := by have := h.1.1.1.len; obtain ⟨_, c, e, h1, h2⟩ := this; unfold maxLen at h2; simp only at h1; omega
 unfold Ms.cells
 simp only
 obtain ⟨W0, hW0⟩ : ∃ W0, w.alloc (.cells #[.int .i64 kind, .int .i64 pub, .int .u64 ver, .bool there, .slice p1 ps.length c1, .int .u64 n, .int .u64 tm, .string key, .slice p2 es.length c2, .int .i64 tb, .int .u64 tl, .int .u64 tc, .int .u64 frm, .int .u64 fr, .int .u64 en, .slice p3 its.length c3, .slice p4 gs.length c4, .bool last] 43) = W0 := ⟨_, rfl⟩
 have k0 : Old w W0 := by rw [← hW0]; exact (Keeps.refl _ _).alloc _
 have b0 : W0.heap[w.heap.size]? = some (.cells #[.int .i64 kind, .int .i64 pub, .int .u64 ver, .bool there, .slice p1 ps.length c1, .int .u64 n, .int .u64 tm, .string key, .slice p2 es.length c2, .int .i64 tb, .int .u64 tl, .int .u64 tc, .int .u64 frm, .int .u64 fr, .int .u64 en, .slice p3 its.length c3, .slice p4 gs.length c4, .bool last] 43 (0, 0)) := by rw [← hW0]; exact heap_alloc_new _ _
 have g := blkM b0
 have hf := Ms.fine.old h k0
 have K := Lib.hid k0
 obtain ⟨⟨h1, _⟩, h2, h3, ⟨hk64, hp64, ht64⟩, hv64, hl64, hc64, hf64⟩ := h
 unfold I64 at hk64 hp64 ht64
 unfold U64 at hv64 hl64 hc64 hf64
 simp only at hk64 hp64 ht64 hv64 hl64 hc64 hf64
 clear r1 k0 b0 h1 h2 h3
 unfold Ms.cells at CR CB
 simp only at CR CB hkd
 have l3 : ∀ a W, (loadVar 3 a).run Try.prog W = (load a).run Try.prog W := fun _ _ => by kernel_rfl
 have HC := Lib.hid (And.intro CR CB)
 have B := Lib.hid (And.intro K.out ((by rw [← hW0]; exact heap_alloc_new _ _ : W0.heap[w.heap.size]? = some (.cells #[.int .i64 kind, .int .i64 pub, .int .u64 ver, .bool there, .slice p1 ps.length c1, .int .u64 n, .int .u64 tm, .string key, .slice p2 es.length c2, .int .i64 tb, .int .u64 tl, .int .u64 tc, .int .u64 frm, .int .u64 fr, .int .u64 en, .slice p3 its.length c3, .slice p4 gs.length c4, .bool last] 43 (0, 0)))))
 have HK := Lib.hid hkd
 have CP0 := parts_any kind W0
 obtain ⟨L, hL⟩ : ∃ L, partsL kind = L := ⟨_, rfl⟩
 rw [hL] at CP0
 have HL := Lib.hid hL
 have CP := Lib.hid CP0
 clear CR CB hf hpm hkd CP0 hL
 go_enter Try.func11, Try.ntmps11
 go_wp2_with fail
 refine CP.out.mono ?_
 rintro e w1 ⟨pp, pn, pc, rfl, hs, k1⟩
 obtain rfl : pn = L.length := by obtain ⟨_, _, e, _⟩ := hs.len; simp only [Value.slice.injEq] at e; exact e.2.1
 have P := Lib.hid (And.intro hs k1)
 clear hs k1 CP g
 go_wp2_with fail
 go_loopw [4] (fun v4 wr => ∃ i : Nat, i ≤ 8 ∧ v4 = .int .i64 i ∧ (∀ j, j < i → partOk pm (j : Int) = true) ∧ Old w1 wr) (fun v4 _ => 8 - (intOf v4).toNat)
 case atStart => exact ⟨0, by omega, rfl, fun j hj => by omega, Keeps.refl _ _⟩
 case round =>
  obtain ⟨i, hi, rfl, hr, hk⟩ := hrel
  have kW := P.out.2.trans hk
  have bw := (kW.block _ (lt_of_heap B.out.2) (fun f => f)).trans B.out.2
  have HR := Lib.hid (And.intro hr (And.intro hk bw))
  by_cases hlt : i < 8
  ·have t : decide ((i : Int) ≤ 7) = true := by simp; omega
   have CC := Lib.hid (fun W (k : Old wr W) => contains_int_any _ L (i : Int) W (P.out.1.old (hk.trans k)))
   have CR := Lib.hid (fun W (k : Old wr W) => HC.out.1 W (B.out.1.trans (kW.trans k)) (i : Int) ⟨by omega, by omega⟩)
   have CB := Lib.hid (fun W (k : Old wr W) => HC.out.2 W (B.out.1.trans (kW.trans k)) (i : Int) ⟨by omega, by omega⟩)
   have FIN := Lib.hid (fun (k : Nat) (h1 : k < i + 1) (h2 : partOk pm (i : Int) = true) => (by
    rcases Nat.lt_or_ge k i with h | h
    ·exact hr k h
    ·obtain rfl : k = i := by omega
     exact h2 : partOk pm (k : Int) = true))
   clear hr hk kW bw
   by_cases hin : (i : Int) ∈ L
   ·as_aux_lemma =>
     have hd : decide ((i : Int) ∈ L) = true := decide_eq_true hin
     rw [hd] at CC
     obtain ⟨z, hz⟩ : ∃ b, rightM pm (i : Int) = b := ⟨_, rfl⟩
     rw [hz] at CR
     have HZ := Lib.hid (show partOk pm (i : Int) = z by unfold partOk; rw [HK.out, HL.out, if_pos hin, hz])
     clear hd hin hz
     go_wp2_with fail
     refine (CC.out _ (Keeps.refl _ _)).mono ?_
     rintro e w2 ⟨rfl, k2⟩
     have g := load_msg ((k2.block _ (lt_of_heap HR.out.2.2) (fun f => f)).trans HR.out.2.2) rfl
     have K2 := Lib.hid k2
     clear k2
     go_wp2_with fail
     refine (CR.out _ K2.out).mono ?_
     rintro e w3 ⟨rfl, k3⟩
     have K3 := Lib.hid (K2.out.trans k3)
     clear k3 g
     cases z
     ·go_wp2_with fail
      go_ret
      exact ⟨ret_bool (mayM_no hlt HZ.out).symm, B.out.1.trans (P.out.2.trans (HR.out.2.1.trans K3.out))⟩
     ·go_wp2_with fail
      refine (CC.out _ K3.out).mono ?_
      rintro e w4 ⟨rfl, k4⟩
      have K4 := Lib.hid (K3.out.trans k4)
      clear k4
      go_wp2_with fail
      go_roundw
      case rel => exact ⟨i + 1, by omega, by go_num, fun k hk => FIN.out k hk HZ.out, HR.out.2.1.trans K4.out⟩
      case measure => simp [intOf]; omega
   ·as_aux_lemma =>
     have hd : decide ((i : Int) ∈ L) = false := decide_eq_false hin
     rw [hd] at CC
     obtain ⟨z, hz⟩ : ∃ b, bareM pm (i : Int) = b := ⟨_, rfl⟩
     rw [hz] at CB
     have HZ := Lib.hid (show partOk pm (i : Int) = z by unfold partOk; rw [HK.out, HL.out, if_neg hin, hz])
     clear hd hin hz
     go_wp2_with fail
     refine (CC.out _ (Keeps.refl _ _)).mono ?_
     rintro e w2 ⟨rfl, k2⟩
     have K2 := Lib.hid k2
     clear k2
     go_wp2_with fail
     refine (CC.out _ K2.out).mono ?_
     rintro e w3 ⟨rfl, k3⟩
     have g := load_msg (((K2.out.trans k3).block _ (lt_of_heap HR.out.2.2) (fun f => f)).trans HR.out.2.2) rfl
     have K3 := Lib.hid (K2.out.trans k3)
     clear k3
     go_wp2_with fail
     refine (CB.out _ K3.out).mono ?_
     rintro e w4 ⟨rfl, k4⟩
     have K4 := Lib.hid (K3.out.trans k4)
     clear k4 g
     cases z
     ·go_wp2_with fail
      go_ret
      exact ⟨ret_bool (mayM_no hlt HZ.out).symm, B.out.1.trans (P.out.2.trans (HR.out.2.1.trans K4.out))⟩
     ·go_wp2_with fail
      go_roundw
      case rel => exact ⟨i + 1, by omega, by go_num, fun k hk => FIN.out k hk HZ.out, HR.out.2.1.trans K4.out⟩
      case measure => simp [intOf]; omega
  ·as_aux_lemma =>
    have t : decide ((i : Int) ≤ 7) = false := by simp; omega
    obtain rfl : i = 8 := by omega
    obtain ⟨z, hz⟩ : ∃ b, decide (0 < L.length) = b := ⟨_, rfl⟩
    have hz2 : decide ((0 : Int) < (L.length : Int)) = z := by rw [← hz, decide_eq_decide]; omega
    have hm : mayM pm = z := by
     unfold mayM
     rw [HK.out, HL.out, hz]
     have : ((List.range 8).all fun p => partOk pm (p : Int)) = true := by
      rw [List.all_eq_true]
      intro j hj
      exact hr j (by simpa using hj)
     rw [this, Bool.true_and]
    have HM := Lib.hid (And.intro hm hz)
    clear hr hk kW bw hm hz
    go_wp2_with fail
    go_ret
    exact ⟨ret_bool (by first | exact HM.out.1.symm | exact HM.out.2.trans HM.out.1.symm), B.out.1.trans (P.out.2.trans HR.out.2.1)⟩
end Go.Proofs.Ytiednihagnehlaa

namespace Go.Proofs.Ytiednihagnehlaa
open Go.RowKit

/-- the row that Put lays: its variable's block, what it holds -/
def WB (w : World) (B bb : Nat) (l : List UInt8) : Prop := ∃ v, w.heap[bb]? = some (.cells #[v] 146 (0, 0)) ∧ Owns w B v l ∧ (∀ k, v.ownBlock = some k → k ≠ bb) ∧ B ≤ w.heap.size
theorem WB.lt {w : World} {B bb : Nat} {l : List UInt8} (h : WB w B bb l) : bb < w.heap.size := by obtain ⟨v, h, _⟩ := h; exact lt_of_heap h
theorem WB.old {w w' : World} {B bb : Nat} {l : List UInt8} (h : WB w B bb l) (k : Old w w') : WB w' B bb l := by
 obtain ⟨v, h1, h2, h3, h4⟩ := h
 exact ⟨v, (k.block _ (lt_of_heap h1) (fun f => f)).trans h1, h2.old k, h3, Nat.le_trans h4 k.size⟩
theorem WB.stored {w w1 : World} {B bb : Nat} {v p : Value} {l : List UInt8} (hB : B ≤ w.heap.size) (hb : w.heap[bb]? = some (.cells #[v] 146 (0, 0))) (hk : Old w w1) (ho : Owns w1 w.heap.size p l) : WB (w1.setCell ⟨bb, 0, none⟩ p) B bb l ∧ Keeps (fun k => k = bb) w (w1.setCell ⟨bb, 0, none⟩ p) := by
 have hlt := lt_of_heap hb
 have hb1 := (hk.block _ hlt (fun f => f)).trans hb
 have kS : Keeps (fun k => k = bb) w1 (w1.setCell ⟨bb, 0, none⟩ p) := keepS _ (Keeps.refl _ _)
 have hob : ∀ k, p.ownBlock = some k → k ≠ bb := fun k hk' => by have := (ho.block k hk').1; omega
 refine ⟨⟨p, ?_, (ho.keeps kS (fun k hk' => hob k hk')).mono hB, hob, Nat.le_trans hB (Nat.le_trans hk.size kS.size)⟩, (hk.weaken (fun _ _ f => f.elim)).trans kS⟩
 have := heap_setCell_same w1 bb 0 _ _ p hb1
 simpa using this

def natL (n : Nat) : List Value := [.int .u64 n]
/-- a form of bytes -/
def tform (F : List UInt8) : List UInt8 := form F.length ++ F
end Go.Proofs.Ytiednihagnehlaa
