/- DERIVED. Chapter 21: msg.Same. · DERIVED. Chapter 21: a message's form, read again (plain). -/
import Derived.Test.YtpjpimahnnekkaaGreatYpMsgForms34
import Derived.Test.YtpjpimahnnekkaaGreatYpMsgForms35
import Derived.Test.YtpjpimahnnekkaaGreatYpMsgForms36
import Derived.Test.YtpjpimahnnekkaaGreatYpMsgForms25
set_option maxRecDepth 100000
set_option maxHeartbeats 8000000
namespace Go.Proofs.YtpjpimahnnekkaaGreat
section
open Go.RowKit
def sameM (m n : PMs) : Bool := (m.kind == n.kind) && ((m.pub == n.pub) && ((m.ver == n.ver) && ((m.there == n.there) && (sameP m.ps n.ps && (sameI m.it n.it && ((m.tb == n.tb && (m.tl == n.tl && m.tc == n.tc)) && ((m.frm == n.frm) && sameG m.pg n.pg)))))))
theorem sameM_iff (m n : PMs) : sameM m n = true ↔ m = n := by
 obtain ⟨a1, a2, a3, a4, a5, a6, a7, a8, a9, a10, a11⟩ := m
 obtain ⟨b1, b2, b3, b4, b5, b6, b7, b8, b9, b10, b11⟩ := n
 unfold sameM
 simp only [Bool.and_eq_true, beq_iff_eq, sameP_iff, sameI_iff, sameG_iff, PMs.mk.injEq]
 constructor
 ·rintro ⟨h1, h2, h3, h4, h5, h6, ⟨h7, h8, h9⟩, h10, h11⟩
  exact ⟨h1, h2, h3, h4, h5, h6, h7, h8, h9, h10, h11⟩
 ·rintro ⟨h1, h2, h3, h4, h5, h6, h7, h8, h9, h10, h11⟩
  exact ⟨h1, h2, h3, h4, h5, h6, ⟨h7, h8, h9⟩, h10, h11⟩
attribute [-go_sem] loadVar
theorem msg_same_any (m m' : Ms) (w : World) (h : m.fine w) (h' : m'.fine w) : Calls Tryz.prog 17 #[.agg m.cells.toArray, .agg m'.cells.toArray] w fun e w' => e = .returned (.bool (sameM m.plain m'.plain)) ∧ Old w w' := by
 have CP := fun W (k : Old w W) => pred_same_any m.pv m'.pv m.ps m'.ps W ((h.1.1.old k).1) ((h'.1.1.old k).1) (fun x hx => ((h.1.1.old k).2 x hx).1) (fun x hx => ((h'.1.1.old k).2 x hx).1)
 have CI := fun W (k : Old w W) => msg_same_item_any m.it m'.it W (h.2.1.1.old k) (h'.2.1.1.old k)
 have CG := fun W (k : Old w W) => msg_same_page_any m.pg m'.pg W (Pg.fine.old h.2.2.1 k) (Pg.fine.old h'.2.2.1 k)
 unfold sameM Ms.plain
 simp only
 generalize sameP (m.ps.map Con.plain) (m'.ps.map Con.plain) = z5 at CP ⊢
 generalize sameI m.it.plain m'.it.plain = z6 at CI ⊢
 generalize sameG m.pg.plain m'.pg.plain = z9 at CG ⊢
 obtain ⟨kind, pub, ver, there, pv, ps, ⟨n, tm, key, av, es⟩, tb, tl, tc, frm, ⟨fr, en, iv, its, gv, gs, last⟩⟩ := m
 obtain ⟨p1, c1, e1, _, _⟩ := h.1.1.1.len
 obtain ⟨p2, c2, e2, _, _⟩ := h.2.1.1.len
 obtain ⟨p3, c3, e3, _, _⟩ := h.2.2.1.1.1.len
 obtain ⟨p4, c4, e4, _, _⟩ := h.2.2.1.1.2.2.len
 simp only at e1 e2 e3 e4
 subst e1 e2 e3 e4
 obtain ⟨kind', pub', ver', there', pv', ps', ⟨n', tm', key', av', es'⟩, tb', tl', tc', frm', ⟨fr', en', iv', its', gv', gs', last'⟩⟩ := m'
 obtain ⟨p1', c1', e1, _, _⟩ := h'.1.1.1.len
 obtain ⟨p2', c2', e2, _, _⟩ := h'.2.1.1.len
 obtain ⟨p3', c3', e3, _, _⟩ := h'.2.2.1.1.1.len
 obtain ⟨p4', c4', e4, _, _⟩ := h'.2.2.1.1.2.2.len
 simp only at e1 e2 e3 e4
 subst e1 e2 e3 e4
 unfold Ms.cells
 unfold It.cells at CI
 unfold Pg.cells at CG
 simp only at CP CI CG ⊢
 obtain ⟨z1, t1⟩ : ∃ b, (kind == kind') = b := ⟨_, rfl⟩
 obtain ⟨z2, t2⟩ : ∃ b, (pub == pub') = b := ⟨_, rfl⟩
 obtain ⟨z3, t3⟩ : ∃ b, (ver == ver') = b := ⟨_, rfl⟩
 obtain ⟨z4, t4⟩ : ∃ b, (there == there') = b := ⟨_, rfl⟩
 obtain ⟨z7, t7⟩ : ∃ b, (tb == tb' && (tl == tl' && tc == tc')) = b := ⟨_, rfl⟩
 obtain ⟨z8, t8⟩ : ∃ b, (frm == frm') = b := ⟨_, rfl⟩
 have natEq : ∀ a b : Nat, ((a : Int) == (b : Int)) = (a == b) := fun a b => by rw [Bool.eq_iff_iff, beq_iff_eq, beq_iff_eq]; omega
 have u3 : ((ver : Int) == (ver' : Int)) = z3 := by rw [natEq, t3]
 have u8 : ((frm : Int) == (frm' : Int)) = z8 := by rw [natEq, t8]
 have te : ∀ W, (binOp .eql 42 (.agg #[.int .i64 tb, .int .u64 tl, .int .u64 tc]) (.agg #[.int .i64 tb', .int .u64 tl', .int .u64 tc'])).run Tryz.prog W = .ok (.bool z7) W := fun W => by rw [eql_tok, natEq, natEq, t7]
 rw [t1, t2, t3, t4, t7, t8]
 have lI : ∀ a W, (loadVar 3 a).run Tryz.prog W = (load a).run Tryz.prog W := fun _ _ => by kernel_rfl
 have lU : ∀ a W, (loadVar 22 a).run Tryz.prog W = (load a).run Tryz.prog W := fun _ _ => by kernel_rfl
 have lB : ∀ a W, (loadVar 4 a).run Tryz.prog W = (load a).run Tryz.prog W := fun _ _ => by kernel_rfl
 have lP : ∀ a W, (loadVar 24 a).run Tryz.prog W = (load a).run Tryz.prog W := fun _ _ => by kernel_rfl
 obtain ⟨W0, hW0⟩ : ∃ W0, (w.alloc (.cells #[.int .i64 kind, .int .i64 pub, .int .u64 ver, .bool there, .slice p1 ps.length c1, .int .u64 n, .int .u64 tm, .string key, .slice p2 es.length c2, .int .i64 tb, .int .u64 tl, .int .u64 tc, .int .u64 frm, .int .u64 fr, .int .u64 en, .slice p3 its.length c3, .slice p4 gs.length c4, .bool last] 44)).alloc (.cells #[.int .i64 kind', .int .i64 pub', .int .u64 ver', .bool there', .slice p1' ps'.length c1', .int .u64 n', .int .u64 tm', .string key', .slice p2' es'.length c2', .int .i64 tb', .int .u64 tl', .int .u64 tc', .int .u64 frm', .int .u64 fr', .int .u64 en', .slice p3' its'.length c3', .slice p4' gs'.length c4', .bool last'] 44) = W0 := ⟨_, rfl⟩
 have k0 : Old w W0 := by rw [← hW0]; exact ((Keeps.refl _ _).alloc _).alloc _
 obtain ⟨b0, b1⟩ := two_blocks w (.cells #[.int .i64 kind, .int .i64 pub, .int .u64 ver, .bool there, .slice p1 ps.length c1, .int .u64 n, .int .u64 tm, .string key, .slice p2 es.length c2, .int .i64 tb, .int .u64 tl, .int .u64 tc, .int .u64 frm, .int .u64 fr, .int .u64 en, .slice p3 its.length c3, .slice p4 gs.length c4, .bool last] 44) (.cells #[.int .i64 kind', .int .i64 pub', .int .u64 ver', .bool there', .slice p1' ps'.length c1', .int .u64 n', .int .u64 tm', .string key', .slice p2' es'.length c2', .int .i64 tb', .int .u64 tl', .int .u64 tc', .int .u64 frm', .int .u64 fr', .int .u64 en', .slice p3' its'.length c3', .slice p4' gs'.length c4', .bool last'] 44)
 rw [hW0] at b0 b1
 have g0 := blkM b0
 have g1 := blkM b1
 have B := Lib.hid (And.intro k0 (And.intro b0 b1))
 have HC := Lib.hid (And.intro CP (And.intro CI CG))
 clear k0 b0 b1 CP CI CG h h' t3 t7 t8 natEq
 cases z1
 ·go_enter Tryz.func17, Tryz.ntmps17
  go_wp2_with fail
  go_ret
  exact ⟨rfl, B.out.1⟩
 cases z2
 ·go_enter Tryz.func17, Tryz.ntmps17
  go_wp2_with fail
  go_ret
  exact ⟨rfl, B.out.1⟩
 cases z3
 ·go_enter Tryz.func17, Tryz.ntmps17
  go_wp2_with fail
  go_ret
  exact ⟨rfl, B.out.1⟩
 cases z4
 ·go_enter Tryz.func17, Tryz.ntmps17
  go_wp2_with fail
  go_ret
  exact ⟨rfl, B.out.1⟩
 go_enter Tryz.func17, Tryz.ntmps17
 go_wp2_with fail
 refine (HC.out.1 _ B.out.1).mono ?_
 rintro e w1 ⟨rfl, k1⟩
 have b0 := (k1.block _ (lt_of_heap B.out.2.1) (fun f => f)).trans B.out.2.1
 have b1 := (k1.block _ (lt_of_heap B.out.2.2) (fun f => f)).trans B.out.2.2
 have K1 := Lib.hid (And.intro (B.out.1.trans k1) (And.intro b0 b1))
 clear g0 g1 k1 b0 b1
 cases z5
 ·go_wp2_with fail
  go_ret
  exact ⟨rfl, K1.out.1⟩
 have g0 := blkM K1.out.2.1
 have g1 := blkM K1.out.2.2
 have l5a := load_sub (W := w1) (b := w.heap.size) (o := 5) (cs := #[.int .u64 n, .int .u64 tm, .string key, .slice p2 es.length c2]) (ty := 29) (by
  intro j v hv
  rcases j with _ | _ | _ | _ | _ | j <;> simp at hv
  all_goals (subst hv; first | exact g0.2.2.2.2.2.1 | exact g0.2.2.2.2.2.2.1 | exact g0.2.2.2.2.2.2.2.1 | exact g0.2.2.2.2.2.2.2.2.1)) Tryz.underlying29 rfl (by kernel_rfl)
 have l5b := load_sub (W := w1) (b := w.heap.size + 1) (o := 5) (cs := #[.int .u64 n', .int .u64 tm', .string key', .slice p2' es'.length c2']) (ty := 29) (by
  intro j v hv
  rcases j with _ | _ | _ | _ | _ | j <;> simp at hv
  all_goals (subst hv; first | exact g1.2.2.2.2.2.1 | exact g1.2.2.2.2.2.2.1 | exact g1.2.2.2.2.2.2.2.1 | exact g1.2.2.2.2.2.2.2.2.1)) Tryz.underlying29 rfl (by kernel_rfl)
 go_wp2_with fail
 refine (HC.out.2.1 _ K1.out.1).mono ?_
 rintro e w2 ⟨rfl, k2⟩
 have b0 := (k2.block _ (lt_of_heap K1.out.2.1) (fun f => f)).trans K1.out.2.1
 have b1 := (k2.block _ (lt_of_heap K1.out.2.2) (fun f => f)).trans K1.out.2.2
 have K2 := Lib.hid (And.intro (K1.out.1.trans k2) (And.intro b0 b1))
 clear g0 g1 k2 b0 b1 l5a l5b
 cases z6
 ·go_wp2_with fail
  go_ret
  exact ⟨rfl, K2.out.1⟩
 have g0 := blkM K2.out.2.1
 have g1 := blkM K2.out.2.2
 have l9a := load_sub (W := w2) (b := w.heap.size) (o := 9) (cs := #[.int .i64 tb, .int .u64 tl, .int .u64 tc]) (ty := 42) (by
  intro j v hv
  rcases j with _ | _ | _ | _ | _ | j <;> simp at hv
  all_goals (subst hv; first | exact g0.2.2.2.2.2.2.2.2.2.1 | exact g0.2.2.2.2.2.2.2.2.2.2.1 | exact g0.2.2.2.2.2.2.2.2.2.2.2.1)) Tryz.underlying42 rfl (by kernel_rfl)
 have l9b := load_sub (W := w2) (b := w.heap.size + 1) (o := 9) (cs := #[.int .i64 tb', .int .u64 tl', .int .u64 tc']) (ty := 42) (by
  intro j v hv
  rcases j with _ | _ | _ | _ | _ | j <;> simp at hv
  all_goals (subst hv; first | exact g1.2.2.2.2.2.2.2.2.2.1 | exact g1.2.2.2.2.2.2.2.2.2.2.1 | exact g1.2.2.2.2.2.2.2.2.2.2.2.1)) Tryz.underlying42 rfl (by kernel_rfl)
 have l13a := load_sub (W := w2) (b := w.heap.size) (o := 13) (cs := #[.int .u64 fr, .int .u64 en, .slice p3 its.length c3, .slice p4 gs.length c4, .bool last]) (ty := 35) (by
  intro j v hv
  rcases j with _ | _ | _ | _ | _ | j <;> simp at hv
  all_goals (subst hv; first | exact g0.2.2.2.2.2.2.2.2.2.2.2.2.2.1 | exact g0.2.2.2.2.2.2.2.2.2.2.2.2.2.2.1 | exact g0.2.2.2.2.2.2.2.2.2.2.2.2.2.2.2.1 | exact g0.2.2.2.2.2.2.2.2.2.2.2.2.2.2.2.2.1 | exact g0.2.2.2.2.2.2.2.2.2.2.2.2.2.2.2.2.2)) Tryz.underlying35 rfl (by kernel_rfl)
 have l13b := load_sub (W := w2) (b := w.heap.size + 1) (o := 13) (cs := #[.int .u64 fr', .int .u64 en', .slice p3' its'.length c3', .slice p4' gs'.length c4', .bool last']) (ty := 35) (by
  intro j v hv
  rcases j with _ | _ | _ | _ | _ | j <;> simp at hv
  all_goals (subst hv; first | exact g1.2.2.2.2.2.2.2.2.2.2.2.2.2.1 | exact g1.2.2.2.2.2.2.2.2.2.2.2.2.2.2.1 | exact g1.2.2.2.2.2.2.2.2.2.2.2.2.2.2.2.1 | exact g1.2.2.2.2.2.2.2.2.2.2.2.2.2.2.2.2.1 | exact g1.2.2.2.2.2.2.2.2.2.2.2.2.2.2.2.2.2)) Tryz.underlying35 rfl (by kernel_rfl)
 cases z7
 ·go_wp2_with fail
  go_ret
  exact ⟨rfl, K2.out.1⟩
 cases z8
 ·go_wp2_with fail
  go_ret
  exact ⟨rfl, K2.out.1⟩
 go_wp2_with fail
 refine (HC.out.2.2 _ K2.out.1).mono ?_
 rintro e w3 ⟨rfl, k3⟩
 have K3 := Lib.hid (K2.out.1.trans k3)
 clear k3 g0 g1 l9a l9b l13a l13b
 go_wp2_with fail
 go_ret
 exact ⟨rfl, K3.out⟩
end
section
open Go.RowKit
def GM (m : PMs) : Prop := ∃ (w : World) (x : Ms), x.fine w ∧ x.plain = m
theorem pB_fwd {F : List UInt8} (r : List UInt8) (h : F.length ≤ 1048576) : pB (tform F ++ r) = some (F, r) := by
 have h1 := pText_fwd (most := 1048576) (s := ⟨F.toArray⟩) r (by rw [arr_size]; exact h) (by decide)
 rw [arr_size, arr_toList] at h1
 unfold pText at h1
 unfold pB tform
 have hc : ((1048576 : Nat) : Int) = 1048576 := rfl
 rw [hc] at h1
 split at h1
 ·rename_i h0
  rw [if_pos h0]
  simp only [Option.some.injEq, Prod.mk.injEq] at h1 ⊢
  refine ⟨?_, h1.2⟩
  have h2 := congrArg ByteArray.toList h1.1
  rwa [arr_toList, arr_toList] at h2
 ·cases h1
theorem pPart_fwd {α : Type} {take : List UInt8 → Option α} {F : List UInt8} {x : α} (r : List UInt8) (h : F.length ≤ 1048576) (ht : take F = some x) : pPart take (tform F ++ r) = some (x, r) := by
 unfold pPart
 rw [pB_fwd r h]
 simp only [Option.bind_some, ht, Option.map_some]
theorem mayM_ok {m : PMs} (h : mayM m = true) (p : Nat) (hp : p < 8) : partOk m (p : Int) = true := by
 unfold mayM at h
 rw [Bool.and_eq_true, List.all_eq_true] at h
 exact h.1 p (by simpa using hp)
def putP (m m0 : PMs) (p : Int) : PMs :=
 if p = 0 then { m0 with pub := m.pub } else if p = 1 then { m0 with ver := m.ver } else if p = 2 then { m0 with there := m.there } else if p = 3 then { m0 with ps := m.ps } else if p = 4 then { m0 with it := m.it }
 else if p = 5 then { m0 with tb := m.tb, tl := m.tl, tc := m.tc } else if p = 6 then { m0 with frm := m.frm } else { m0 with pg := m.pg }
theorem tform_ge (F : List UInt8) : F.length ≤ (tform F).length := by unfold tform; simp
theorem right6' {m : PMs} (h : rightM m 6 = true) : m.frm ≤ 1099511627777 := by
 unfold rightM at h
 simp only [show ¬ ((6 : Int) = 0) by decide, show ¬ ((6 : Int) = 1) by decide, show ¬ ((6 : Int) = 3) by decide, show ¬ ((6 : Int) = 4) by decide, show ¬ ((6 : Int) = 5) by decide, if_false, if_true, Bool.and_eq_true, decide_eq_true_eq] at h
 exact h.2
theorem right1' {m : PMs} (h : rightM m 1 = true) : m.ver ≤ 1099511627776 := by
 unfold rightM numOk at h
 simp only [show ¬ ((1 : Int) = 0) by decide, if_false, if_true, Bool.and_eq_true, decide_eq_true_eq] at h
 exact h.2
theorem right3e {m : PMs} (h : rightM m 3 = true) (hc : m.kind = 1 ∧ m.there = false) : m.ps = [] := by
 unfold rightM at h
 simp only [show ¬ ((3 : Int) = 0) by decide, show ¬ ((3 : Int) = 1) by decide, if_false, if_true] at h
 simp [hc.1, hc.2] at h
 exact h
theorem step_fwd {m m0 : PMs} {p : Int} (hp : 0 ≤ p ∧ p ≤ 7) (hr : rightM m p = true) (hg : GM m) (hk : m0.kind = m.kind) (h3 : p = 3 → m0.there = m.there ∧ m0.ps = []) (r : List UInt8) : stepM p m0 (partForm m p ++ r) = some (putP m m0 p, r) := by
 obtain ⟨w, x, hf, hx⟩ := hg
 have hle := part_le hf hp (by rw [hx]; exact hr)
 rw [hx] at hle
 obtain rfl | rfl | rfl | rfl | rfl | rfl | rfl | rfl : p = 0 ∨ p = 1 ∨ p = 2 ∨ p = 3 ∨ p = 4 ∨ p = 5 ∨ p = 6 ∨ p = 7 := by omega
 ·have h := right0' hr
  have e : ((m.pub.toNat : Nat) : Int) = m.pub := by omega
  simp only [stepM, partForm, putP, if_true]
  rw [pNum_fwd r (by show _ ≤ 1099511627777; omega) (by omega)]
  simp only [Option.map_some, e]
 ·have h := right1' hr
  simp only [stepM, partForm, putP, show ¬ ((1 : Int) = 0) by decide, if_false, if_true]
  rw [pNum_fwd r (by show _ ≤ 1099511627777; omega) (by omega)]
  rfl
 ·simp only [stepM, partForm, putP, show ¬ ((2 : Int) = 0) by decide, show ¬ ((2 : Int) = 1) by decide, if_false, if_true]
  rw [pNum_fwd r (by show _ ≤ 1099511627777; split <;> omega) (by split <;> omega)]
  cases m.there <;> rfl
 ·simp only [stepM, partForm, putP, show ¬ ((3 : Int) = 0) by decide, show ¬ ((3 : Int) = 1) by decide, show ¬ ((3 : Int) = 2) by decide, if_false, if_true] at hle ⊢
  by_cases hc : m.kind = 1 ∧ m.there = false
  ·rw [if_pos (by rw [hk, (h3 rfl).1]; exact hc), if_pos hc, right3e hr hc]
   have := (h3 rfl).2
   obtain ⟨a1, a2, a3, a4, a5, a6, a7, a8, a9, a10, a11⟩ := m0
   simp only at this
   subst this
   rfl
  ·rw [if_neg hc] at hle
   rw [if_neg (by rw [hk, (h3 rfl).1]; exact hc), if_neg hc]
   have ho := right3' hr hc
   have hcg : ∀ c ∈ m.ps, ConG c := by
    have e : m.ps = x.ps.map Con.plain := by rw [← hx]; rfl
    rw [e] at ho ⊢
    exact consG hf.1.1 ho
   have := tform_ge (predForm m.ps)
   rw [pPart_fwd r (by omega) (takeP_form ho hcg)]
   rfl
 ·have ho := right4' hr
  simp only [stepM, partForm, putP, show ¬ ((4 : Int) = 0) by decide, show ¬ ((4 : Int) = 1) by decide, show ¬ ((4 : Int) = 2) by decide, show ¬ ((4 : Int) = 3) by decide, if_false, if_true] at hle ⊢
  have := tform_ge (itForm m.it)
  have hfe : Fits m.it.es := by rw [← hx]; exact hf.2.1.2.2.1
  rw [pPart_fwd r (by omega) (takeI_form ho hfe)]
  rfl
 ·have h := right5' hr
  have h2 := h.2
  unfold numOk at h2
  simp only [Bool.and_eq_true, decide_eq_true_eq] at h2
  have e : ((m.tb.toNat : Nat) : Int) = m.tb := by omega
  simp only [stepM, partForm, putP, show ¬ ((5 : Int) = 0) by decide, show ¬ ((5 : Int) = 1) by decide, show ¬ ((5 : Int) = 2) by decide, show ¬ ((5 : Int) = 3) by decide, show ¬ ((5 : Int) = 4) by decide, if_false, if_true, List.append_assoc]
  rw [pNum_fwd _ (by show _ ≤ 1099511627777; omega) (by omega)]
  simp only [Option.bind_some]
  rw [pNum_fwd _ (by show _ ≤ 1099511627777; omega) (by omega)]
  simp only [Option.bind_some]
  rw [pNum_fwd _ (by show _ ≤ 1099511627777; omega) (by omega)]
  simp only [Option.map_some, e]
 ·have h := right6' hr
  simp only [stepM, partForm, putP, show ¬ ((6 : Int) = 0) by decide, show ¬ ((6 : Int) = 1) by decide, show ¬ ((6 : Int) = 2) by decide, show ¬ ((6 : Int) = 3) by decide, show ¬ ((6 : Int) = 4) by decide, show ¬ ((6 : Int) = 5) by decide, if_false, if_true]
  rw [pNum_fwd r (by show _ ≤ 1099511627777; omega) (by omega)]
  rfl
 ·have ho := right7' hr
  simp only [stepM, partForm, putP, show ¬ ((7 : Int) = 0) by decide, show ¬ ((7 : Int) = 1) by decide, show ¬ ((7 : Int) = 2) by decide, show ¬ ((7 : Int) = 3) by decide, show ¬ ((7 : Int) = 4) by decide, show ¬ ((7 : Int) = 5) by decide, show ¬ ((7 : Int) = 6) by decide, if_false] at hle ⊢
  have := tform_ge (pageForm m.pg)
  have hfe : ∀ y ∈ m.pg.items, Fits y.es := by
   rw [← hx]
   intro y hy
   obtain ⟨z, hz, rfl⟩ := List.mem_map.1 hy
   exact (hf.2.2.1.1.2.1 z hz).2.2.1
  rw [pPart_fwd r (by omega) (takeG_form ho hfe)]
  rfl
theorem parts_fwd {m : PMs} (hg : GM m) : ∀ (L : List Int) (m0 : PMs) (r : List UInt8), (∀ p ∈ L, (0 ≤ p ∧ p ≤ 7) ∧ rightM m p = true) → m0.kind = m.kind → (∀ l1 l2, L = l1 ++ 3 :: l2 → (l1.foldl (putP m) m0).there = m.there ∧ (l1.foldl (putP m) m0).ps = []) →
  partsM L m0 (L.flatMap (partForm m) ++ r) = some (L.foldl (putP m) m0, r)
 | [], m0, r, _, _, _ => rfl
 | p :: L, m0, r, h, hk, h3 => by
  unfold partsM
  rw [List.flatMap_cons, List.append_assoc, step_fwd (h p (by simp)).1 (h p (by simp)).2 hg hk (fun e => h3 [] L (by rw [e]; rfl))]
  simp only [Option.bind_some, List.foldl_cons]
  refine parts_fwd hg L _ r (fun q hq => h q (by simp [hq])) ?_ (fun l1 l2 e => h3 (p :: l1) l2 (by rw [e]; rfl))
  unfold putP
  (repeat' split) <;> exact hk
theorem bare_eqs {m : PMs} : (bareM m 0 = true → m.pub = 0) ∧ (bareM m 1 = true → m.ver = 0) ∧ (bareM m 2 = true → m.there = false) ∧ (bareM m 3 = true → m.ps = []) ∧ (bareM m 4 = true → m.it = noItem) ∧ (bareM m 5 = true → m.tb = 0 ∧ m.tl = 0 ∧ m.tc = 0) ∧ (bareM m 6 = true → m.frm = 0) ∧ (bareM m 7 = true → m.pg = noPage) := by
 simp only [bareM, if_true, show ¬ ((1 : Int) = 0) by decide, show ¬ ((2 : Int) = 0) by decide, show ¬ ((2 : Int) = 1) by decide, show ¬ ((3 : Int) = 0) by decide, show ¬ ((3 : Int) = 1) by decide, show ¬ ((3 : Int) = 2) by decide, show ¬ ((4 : Int) = 0) by decide, show ¬ ((4 : Int) = 1) by decide, show ¬ ((4 : Int) = 2) by decide, show ¬ ((4 : Int) = 3) by decide,
  show ¬ ((5 : Int) = 0) by decide, show ¬ ((5 : Int) = 1) by decide, show ¬ ((5 : Int) = 2) by decide, show ¬ ((5 : Int) = 3) by decide, show ¬ ((5 : Int) = 4) by decide, show ¬ ((6 : Int) = 0) by decide, show ¬ ((6 : Int) = 1) by decide, show ¬ ((6 : Int) = 2) by decide, show ¬ ((6 : Int) = 3) by decide, show ¬ ((6 : Int) = 4) by decide, show ¬ ((6 : Int) = 5) by decide,
  show ¬ ((7 : Int) = 0) by decide, show ¬ ((7 : Int) = 1) by decide, show ¬ ((7 : Int) = 2) by decide, show ¬ ((7 : Int) = 3) by decide, show ¬ ((7 : Int) = 4) by decide, show ¬ ((7 : Int) = 5) by decide, show ¬ ((7 : Int) = 6) by decide, if_false, beq_iff_eq, Bool.and_eq_true, List.isEmpty_iff, sameI_iff, sameG_iff, Bool.not_eq_true', imp_self, and_self]
theorem mayM_fold {m : PMs} (h : mayM m = true) : (partsL m.kind).foldl (putP m) { noMs with kind := m.kind } = m := by
 have h8 := fun p hp => mayM_ok h p hp
 have hk := (mayM_parts h).1
 obtain ⟨b0, b1, b2, b3, b4, b5, b6, b7⟩ := @bare_eqs m
 obtain ⟨kind, pub, ver, there, ps, it, tb, tl, tc, frm, pg⟩ := m
 simp only at hk b0 b1 b2 b3 b4 b5 b6 b7
 have q := fun p hp (hn : ((p : Nat) : Int) ∉ partsL kind) => (by have := h8 p hp; unfold partOk at this; rwa [if_neg hn] at this)
 clear h8 h
 obtain rfl | rfl | rfl | rfl | rfl | rfl : kind = 1 ∨ kind = 2 ∨ kind = 3 ∨ kind = 4 ∨ kind = 5 ∨ kind = 6 := by omega
 ·have := b4 (q 4 (by decide) (by decide)); have := b5 (q 5 (by decide) (by decide)); have := b6 (q 6 (by decide) (by decide)); have := b7 (q 7 (by decide) (by decide))
  simp_all [partsL, putP, noMs]
 ·have := b0 (q 0 (by decide) (by decide)); have := b1 (q 1 (by decide) (by decide)); have := b2 (q 2 (by decide) (by decide)); have := b4 (q 4 (by decide) (by decide)); have := b5 (q 5 (by decide) (by decide)); have := b6 (q 6 (by decide) (by decide)); have := b7 (q 7 (by decide) (by decide))
  simp_all [partsL, putP, noMs]
 ·have := b0 (q 0 (by decide) (by decide)); have := b1 (q 1 (by decide) (by decide)); have := b2 (q 2 (by decide) (by decide)); have := b4 (q 4 (by decide) (by decide)); have := b5 (q 5 (by decide) (by decide)); have := b6 (q 6 (by decide) (by decide)); have := b7 (q 7 (by decide) (by decide))
  simp_all [partsL, putP, noMs]
 ·have := b1 (q 1 (by decide) (by decide)); have := b2 (q 2 (by decide) (by decide)); have := b3 (q 3 (by decide) (by decide)); have := b5 (q 5 (by decide) (by decide)); have := b6 (q 6 (by decide) (by decide)); have := b7 (q 7 (by decide) (by decide))
  simp_all [partsL, putP, noMs]
 ·have := b1 (q 1 (by decide) (by decide)); have := b2 (q 2 (by decide) (by decide)); have := b4 (q 4 (by decide) (by decide)); have := b7 (q 7 (by decide) (by decide))
  simp_all [partsL, putP, noMs]
 ·have := b1 (q 1 (by decide) (by decide)); have := b2 (q 2 (by decide) (by decide)); have := b3 (q 3 (by decide) (by decide)); have := b4 (q 4 (by decide) (by decide)); have := b6 (q 6 (by decide) (by decide))
  simp_all [partsL, putP, noMs]
theorem parseM_fwd {m : PMs} (h : mayM m = true) (hg : GM m) (r : List UInt8) : parseM (mForm m ++ r) = some (m, r) := by
 obtain ⟨hk, hr⟩ := mayM_parts h
 have e : ((m.kind.toNat : Nat) : Int) = m.kind := by omega
 unfold parseM mForm
 rw [List.append_assoc, pNum_fwd _ (by show _ ≤ 1099511627777; omega) (by omega)]
 simp only [Option.bind_some, e]
 rw [parts_fwd hg _ { noMs with kind := m.kind } r (fun p hp => ⟨(parts_mem hp).2, hr p hp⟩) rfl]
 ·rw [mayM_fold h]
 ·intro l1 l2 hL
  have hfold := mayM_fold h
  have h8 := mayM_ok h 2 (by decide)
  have b2 := (@bare_eqs m).2.2.1
  unfold partOk at h8
  obtain ⟨kind, pub, ver, there, ps, it, tb, tl, tc, frm, pg⟩ := m
  simp only at hk hL h8 b2 ⊢
  obtain rfl | rfl | rfl | rfl | rfl | rfl : kind = 1 ∨ kind = 2 ∨ kind = 3 ∨ kind = 4 ∨ kind = 5 ∨ kind = 6 := by omega
  ·have : l1 = [0, 1, 2] := by
    rcases l1 with _ | ⟨a, _ | ⟨b, _ | ⟨c, _ | ⟨d, t⟩⟩⟩⟩ <;> simp [partsL] at hL <;> simp_all
   subst this
   simp [putP, noMs]
  ·have : l1 = [] := by
    rcases l1 with _ | ⟨a, t⟩ <;> simp [partsL] at hL <;> simp_all
   subst this
   have := b2 (by simpa [partsL] using h8)
   simp [noMs, this]
  ·have : l1 = [] := by
    rcases l1 with _ | ⟨a, t⟩ <;> simp [partsL] at hL <;> simp_all
   subst this
   have := b2 (by simpa [partsL] using h8)
   simp [noMs, this]
  ·exfalso
   rcases l1 with _ | ⟨a, _ | ⟨b, t⟩⟩ <;> simp [partsL] at hL
  ·have : l1 = [5, 0] := by
    rcases l1 with _ | ⟨a, _ | ⟨b, _ | ⟨c, _ | ⟨d, t⟩⟩⟩⟩ <;> simp [partsL] at hL <;> simp_all
   subst this
   have := b2 (by simpa [partsL] using h8)
   simp [putP, noMs, this]
  ·exfalso
   rcases l1 with _ | ⟨a, _ | ⟨b, _ | ⟨c, t⟩⟩⟩ <;> simp [partsL] at hL
theorem takeM_form {m : PMs} (h : mayM m = true) (hg : GM m) : takeM (mForm m) = some m := by
 have hp := parseM_fwd h hg []
 rw [List.append_nil] at hp
 unfold takeM
 rw [hp]
 simp [h]
end
section
open Go.RowKit
theorem zero_fine (w : World) : zeroMs.fine w := (MsO.zero w 0).fine
abbrev rowA : Ms := { zeroMs with kind := 1, pub := 5, ver := 2 }
abbrev rowB (v : Value) : Ms := { zeroMs with kind := 2, pv := v, ps := [hasA (.slice none 0 0)] }
abbrev rowC : Ms := { zeroMs with kind := 5, pub := 7, tb := 3, tl := 1, tc := 9, frm := 4 }
theorem rowA_fine (w : World) : rowA.fine w := ⟨(zero_fine w).1, (zero_fine w).2.1, (zero_fine w).2.2.1, by unfold I64; decide, by unfold U64; decide⟩
theorem rowC_fine (w : World) : rowC.fine w := ⟨(zero_fine w).1, (zero_fine w).2.1, (zero_fine w).2.2.1, by unfold I64; decide, by unfold U64; decide⟩
theorem rowB_fine_n (v : Value) : (I64 (rowB v).kind ∧ I64 (rowB v).pub ∧ I64 (rowB v).tb) ∧ (U64 (rowB v).ver ∧ U64 (rowB v).tl ∧ U64 (rowB v).tc ∧ U64 (rowB v).frm) := by
 show (I64 2 ∧ I64 0 ∧ I64 0) ∧ (U64 0 ∧ U64 0 ∧ U64 0 ∧ U64 0)
 unfold I64 U64
 decide
theorem rowA_ok : mayM rowA.plain = true := by decide +kernel
theorem rowB_ok (v : Value) : mayM (rowB v).plain = true := by
 have h : (rowB v).plain = (rowB .nilIface).plain := rfl
 rw [h]
 decide +kernel
theorem rowC_ok : mayM rowC.plain = true := by decide +kernel
theorem rowA_form : mForm rowA.plain = [1, 5, 2, 0] := by
 simp [mForm, Ms.plain, zeroMs, partsL, partForm, form_lt]
theorem rowB_form (v : Value) : mForm (rowB v).plain = [2, 4, 1, 1, 97, 1] := by
 simp [mForm, Ms.plain, zeroMs, partsL, partForm, form_lt, tform, predForm, conForm, Con.plain, ByteArray.size]
theorem rowC_form : mForm rowC.plain = [5, 3, 1, 9, 7, 1, 0, 4] := by
 simp [mForm, Ms.plain, zeroMs, partsL, partForm, form_lt, tform, predForm]
theorem rowC_take (w : World) : takeM [5, 3, 1, 9, 7, 1, 0, 4] = some rowC.plain := by
 rw [← rowC_form]
 exact takeM_form rowC_ok ⟨w, rowC, rowC_fine w, rfl⟩
theorem bad_take : takeM [1, 5, 2, 2] = none := Option.isNone_iff_eq_none.1 (by decide +kernel)
attribute [-go_sem] loadVar storeVar
theorem mwakes_any (w : World) : Calls Tryz.prog 20 #[] w fun e w' => e = .returned (.bool true) ∧ Old w w' := by
 have C1 := msg_put_any rowA w (rowA_fine w)
 rw [rowA_ok, rowA_form] at C1
 have H1 := Lib.hid C1
 clear C1
 go_enter Tryz.func20, Tryz.ntmps20
 go_wp2_with fail
 refine H1.out.mono ?_
 rintro e w1 ⟨p1, c1, z1, L1, rfl, k1, ho1, hL1, hz1⟩
 simp only [if_true] at hL1 hz1
 subst hL1 hz1
 have hcon : Cons (w1.alloc (.cells #[.string ⟨#[97]⟩, .int .i64 1, .int .i64 0, .int .i64 0, .string ⟨#[]⟩, .bool false, .slice none 0 0] 72)) (.slice (some ⟨w1.heap.size, 0, none⟩) 1 1) [hasA (.slice none 0 0)] :=
  ⟨SeesR.new (k := 7) (enc := Con.cells) w1 _ (0, 0) [hasA (.slice none 0 0)] _ (by simp [Con.cells]) (fun _ => rfl) (by unfold maxLen; simp), fun x hx => by
   obtain rfl : x = hasA (.slice none 0 0) := by simpa using hx
   exact ⟨SeesR.nil _, ⟨by simp [ByteArray.size], by simp, by simp⟩, fun _ h => (by cases h), fun h => (by cases h)⟩⟩
 have hfB : (rowB (.slice (some ⟨w1.heap.size, 0, none⟩) 1 1)).fine (w1.alloc (.cells #[.string ⟨#[97]⟩, .int .i64 1, .int .i64 0, .int .i64 0, .string ⟨#[]⟩, .bool false, .slice none 0 0] 72)) :=
  ⟨⟨hcon, fun _ b hb => by simp [Value.ownBlock] at hb; subst hb; simp⟩, (zero_fine _).2.1, (zero_fine _).2.2.1, (rowB_fine_n _).1, (rowB_fine_n _).2⟩
 have C2 := msg_put_any _ _ hfB
 rw [rowB_ok, rowB_form] at C2
 have H2 := Lib.hid C2
 have o1 : Old w1 (w1.alloc (.cells #[.string ⟨#[97]⟩, .int .i64 1, .int .i64 0, .int .i64 0, .string ⟨#[]⟩, .bool false, .slice none 0 0] 72)) := (Keeps.refl _ _).alloc _
 have K1 := Lib.hid (And.intro k1 (And.intro o1 ho1.sees))
 clear C2 hcon hfB o1 ho1 k1 H1
 go_wp2_with fail
 refine H2.out.mono ?_
 rintro e w2 ⟨p2, c2, z2, L2, rfl, k2, ho2, hL2, hz2⟩
 simp only [if_true] at hL2 hz2
 subst hL2 hz2
 obtain ⟨Wa, hWa⟩ : ∃ W, w2.alloc (.cells zeroMs.cells.toArray 44) = W := ⟨_, rfl⟩
 have ba : MAt Wa w2.heap.size zeroMs := by rw [← hWa]; exact heap_alloc_new _ _
 have oa : Old w2 Wa := by rw [← hWa]; exact (Keeps.refl _ _).alloc _
 obtain ⟨W2, hst, b2, kb⟩ := store_msg ba rowC (by simp [Ms.cells, zeroMs, Value.oneCell'])
 have o2 : Old w2 W2 := oa.then kb (fun i hi e => by omega)
 change (storeVar 44 ⟨w2.heap.size, 0, none⟩ (.agg #[.int .i64 5, .int .i64 7, .int .u64 0, .bool false, .slice none 0 0, .int .u64 0, .int .u64 0, .string ⟨#[]⟩, .slice none 0 0, .int .i64 3, .int .u64 1, .int .u64 9, .int .u64 4, .int .u64 0, .int .u64 0, .slice none 0 0, .slice none 0 0, .bool false])).run Tryz.prog Wa = .ok () W2 at hst
 have g2 := load_msg b2 rfl
 change w2.alloc (.cells #[.int .i64 0, .int .i64 0, .int .u64 0, .bool false, .slice none 0 0, .int .u64 0, .int .u64 0, .string ⟨#[]⟩, .slice none 0 0, .int .i64 0, .int .u64 0, .int .u64 0, .int .u64 0, .int .u64 0, .int .u64 0, .slice none 0 0, .slice none 0 0, .bool false] 44) = Wa at hWa
 have C3 := msg_put_any rowC W2 (rowC_fine W2)
 rw [rowC_ok, rowC_form] at C3
 have H3 := Lib.hid C3
 have K2 := Lib.hid (And.intro (K1.out.1.trans (K1.out.2.1.trans (k2.trans o2))) (And.intro (K1.out.2.2.old (K1.out.2.1.trans (k2.trans o2))) (And.intro (ho2.sees.old o2) b2)))
 clear C3 ba oa kb o2 k2 ho2 H2 K1 b2
 go_wp2_with fail
 refine H3.out.mono ?_
 rintro e w3 ⟨p3, c3, z3, L3, rfl, k3, ho3, hL3, hz3⟩
 simp only [if_true] at hL3 hz3
 subst hL3 hz3
 have s4 : Sees (w3.alloc (.cells #[.int .u8 5, .int .u8 3, .int .u8 1, .int .u8 9, .int .u8 7, .int .u8 1, .int .u8 0, .int .u8 4] 5)) (.slice (some ⟨w3.heap.size, 0, none⟩) 8 8) [5, 3, 1, 9, 7, 1, 0, 4] := Sees.new w3 [5, 3, 1, 9, 7, 1, 0, 4] (0, 0) (by unfold maxLen; simp)
 have C4 := Lib.hid (msg_take_any _ _ _ s4 (by simp))
 have K3 := Lib.hid (And.intro (show Old W2 (w3.alloc (.cells #[.int .u8 5, .int .u8 3, .int .u8 1, .int .u8 9, .int .u8 7, .int .u8 1, .int .u8 0, .int .u8 4] 5)) from k3.trans ((Keeps.refl _ _).alloc _)) (ho3.sees.alloc (.cells #[.int .u8 5, .int .u8 3, .int .u8 1, .int .u8 9, .int .u8 7, .int .u8 1, .int .u8 0, .int .u8 4] 5)))
 clear s4 k3 ho3 H3 g2 hWa hst
 go_wp2_with fail
 refine C4.out.mono ?_
 rintro e w5 ⟨m5, z5, rfl, k5, ho5, hres5⟩
 rw [rowC_take w] at hres5
 obtain ⟨hm5, rfl⟩ : m5.plain = rowC.plain ∧ z5 = 0 := by
  rcases hres5 with ⟨h1, h2⟩ | ⟨h1, _⟩
  ·exact ⟨(Option.some.inj h1).symm, h2⟩
  ·cases h1
 obtain ⟨Wb, hWb⟩ : ∃ W, w5.alloc (.cells zeroMs.cells.toArray 44) = W := ⟨_, rfl⟩
 have bb : MAt Wb w5.heap.size zeroMs := by rw [← hWb]; exact heap_alloc_new _ _
 have ob : Old w5 Wb := by rw [← hWb]; exact (Keeps.refl _ _).alloc _
 obtain ⟨W5, hst5, b5, kb5⟩ := store_msg bb m5 ho5.one
 have o5 : Old w5 W5 := ob.then kb5 (fun i hi e => by omega)
 change w5.alloc (.cells #[.int .i64 0, .int .i64 0, .int .u64 0, .bool false, .slice none 0 0, .int .u64 0, .int .u64 0, .string ⟨#[]⟩, .slice none 0 0, .int .i64 0, .int .u64 0, .int .u64 0, .int .u64 0, .int .u64 0, .int .u64 0, .slice none 0 0, .slice none 0 0, .bool false] 44) = Wb at hWb
 have s6 : Sees (W5.alloc (.cells #[.int .u8 1, .int .u8 5, .int .u8 2, .int .u8 2] 5)) (.slice (some ⟨W5.heap.size, 0, none⟩) 4 4) [1, 5, 2, 2] := Sees.new W5 [1, 5, 2, 2] (0, 0) (by unfold maxLen; simp)
 have C6 := Lib.hid (msg_take_any _ _ _ s6 (by simp))
 have o6 : Old W5 (W5.alloc (.cells #[.int .u8 1, .int .u8 5, .int .u8 2, .int .u8 2] 5)) := (Keeps.refl _ _).alloc _
 have K5 := Lib.hid (And.intro (K3.out.1.trans (k5.trans (o5.trans o6))) (And.intro (K3.out.2.old (k5.trans (o5.trans o6))) (And.intro ((ho5.old o5).old o6) (And.intro ((o6.block _ (lt_of_heap b5) (fun f => f)).trans b5) hm5))))
 clear hres5 bb ob kb5 o5 s6 o6 ho5 k5 hm5 C4
 go_wp2_with fail
 refine C6.out.mono ?_
 rintro e w7 ⟨m7, z7, rfl, k7, ho7, hres7⟩
 rw [bad_take] at hres7
 obtain ⟨rfl, rfl⟩ : m7 = zeroMs ∧ z7 = 5 := by
  rcases hres7 with ⟨h1, _⟩ | ⟨_, h1, h2⟩
  ·cases h1
  ·exact ⟨h1, h2⟩
 obtain ⟨Wc, hWc⟩ : ∃ W, w7.alloc (.cells zeroMs.cells.toArray 44) = W := ⟨_, rfl⟩
 have bc : MAt Wc w7.heap.size zeroMs := by rw [← hWc]; exact heap_alloc_new _ _
 have oc : Old w7 Wc := by rw [← hWc]; exact (Keeps.refl _ _).alloc _
 obtain ⟨W7, hst7, b7, kb7⟩ := store_msg bc zeroMs ho7.one
 have o7 : Old w7 W7 := oc.then kb7 (fun i hi e => by omega)
 change w7.alloc (.cells #[.int .i64 0, .int .i64 0, .int .u64 0, .bool false, .slice none 0 0, .int .u64 0, .int .u64 0, .string ⟨#[]⟩, .slice none 0 0, .int .i64 0, .int .u64 0, .int .u64 0, .int .u64 0, .int .u64 0, .int .u64 0, .slice none 0 0, .slice none 0 0, .bool false] 44) = Wc at hWc
 have kk := K5.out.1.trans (k7.trans o7)
 have k27 := k7.trans o7
 have T1 := (K2.out.2.1.old kk).text
 have T2 := (K2.out.2.2.1.old kk).text
 have T3 := (K5.out.2.1.old k27).text
 simp only [List.length_cons, List.length_nil, Nat.zero_add, Nat.reduceAdd] at T1 T2 T3
 have G5 := load_msg ((k27.block _ (lt_of_heap K5.out.2.2.2.1) (fun f => f)).trans K5.out.2.2.2.1) rfl
 have G2 := load_msg ((kk.block _ (lt_of_heap K2.out.2.2.2) (fun f => f)).trans K2.out.2.2.2) rfl
 have CS := msg_same_any m5 rowC W7 ((K5.out.2.2.1.old k27).fine) (rowC_fine W7)
 rw [K5.out.2.2.2.2, (sameM_iff _ _).2 rfl] at CS
 have HS := Lib.hid CS
 have CH1 := Lib.hid (fun W => home_any 7 W ⟨by decide, by decide⟩)
 have CH2 := Lib.hid (fun W => home_any 256 W ⟨by decide, by decide⟩)
 have e1 : homeZ 7 = 1 := by decide
 have e2 : homeZ 256 = -1 := by decide
 rw [e1] at CH1
 rw [e2] at CH2
 have FIN := Lib.hid (K2.out.1.trans kk)
 have bs := bytes_self
 clear hres7 bc oc kb7 o7 k7 ho7 kk k27 b7 CS e1 e2 C6 K2 K3 K5
 go_wp2_with fail
 refine HS.out.mono ?_
 rintro e w8 ⟨rfl, k8⟩
 have F8 := Lib.hid (FIN.out.trans k8)
 clear k8
 go_wp2_with fail
 refine (CH1.out _).mono ?_
 rintro e w9 ⟨rfl, rfl⟩
 go_wp2_with fail
 refine (CH2.out _).mono ?_
 rintro e w9 ⟨rfl, rfl⟩
 go_wp2_with fail
 go_ret
 exact ⟨rfl, F8.out⟩
end
end Go.Proofs.YtpjpimahnnekkaaGreat
