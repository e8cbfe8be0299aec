/- DERIVED. Chapter 21, the document's Bare. (gen_db.py wrote it) · DERIVED. The plain law of MsgMay. -/
import Derived.Test.YtpjpimahnnekkaaGreatZMsgForms01
import Derived.Test.YtpjpimahnnekkaaGreatYpMsgForms35
import Derived.Deep.DeepCutAuto
set_option maxRecDepth 100000
set_option maxHeartbeats 4000000
namespace Go.Proofs.YtpjpimahnnekkaaGreat
section
open Go.RowKit Go.Great
attribute [-go_sem] loadVar storeVar
def bareR (m : Ms) : Ms :=
 if m.kind = 1 then (if m.there = true then { zeroMs with kind := 1, pub := m.pub, ver := m.ver, there := true, pv := m.pv, ps := m.ps } else { zeroMs with kind := 1, pub := m.pub, ver := m.ver })
 else if m.kind = 2 then { zeroMs with kind := 2, pv := m.pv, ps := m.ps } else if m.kind = 3 then { zeroMs with kind := 3, pv := m.pv, ps := m.ps }
 else if m.kind = 4 then { zeroMs with kind := 4, pub := m.pub, it := m.it } else if m.kind = 5 then { zeroMs with kind := 5, pub := m.pub, tb := m.tb, tl := m.tl, tc := m.tc, pv := m.pv, ps := m.ps, frm := m.frm }
 else if m.kind = 6 then { zeroMs with kind := 6, pub := m.pub, tb := m.tb, tl := m.tl, tc := m.tc, pg := m.pg } else zeroMs
theorem bareR_fine {m : Ms} {w : World} (h : m.fine w) : (bareR m).fine w := by
 have hz := (MsO.zero w 0).fine
 obtain ⟨h1, h2, h3, ⟨k1, k2, k3⟩, h5, h6, h7, h8⟩ := h
 have q : ∀ k : Int, 0 ≤ k → k ≤ 6 → I64 k := fun k a b => ⟨by omega, by omega⟩
 have u : U64 0 := by unfold U64; decide
 unfold bareR
 repeat' split
 ·exact ⟨h1, hz.2.1, hz.2.2.1, ⟨q 1 (by decide) (by decide), k2, q 0 (by decide) (by decide)⟩, h5, u, u, u⟩
 ·exact ⟨hz.1, hz.2.1, hz.2.2.1, ⟨q 1 (by decide) (by decide), k2, q 0 (by decide) (by decide)⟩, h5, u, u, u⟩
 ·exact ⟨h1, hz.2.1, hz.2.2.1, ⟨q 2 (by decide) (by decide), q 0 (by decide) (by decide), q 0 (by decide) (by decide)⟩, u, u, u, u⟩
 ·exact ⟨h1, hz.2.1, hz.2.2.1, ⟨q 3 (by decide) (by decide), q 0 (by decide) (by decide), q 0 (by decide) (by decide)⟩, u, u, u, u⟩
 ·exact ⟨hz.1, h2, hz.2.2.1, ⟨q 4 (by decide) (by decide), k2, q 0 (by decide) (by decide)⟩, u, u, u, u⟩
 ·exact ⟨h1, hz.2.1, hz.2.2.1, ⟨q 5 (by decide) (by decide), k2, k3⟩, u, h6, h7, h8⟩
 ·exact ⟨hz.1, hz.2.1, h3, ⟨q 6 (by decide) (by decide), k2, k3⟩, u, h6, h7, u⟩
 ·exact hz
theorem ref21_bare_any (m : Ms) (w : World) (h : m.fine w) : Calls Tryz.prog 58 #[.agg m.cells.toArray] w fun e w' => e = .returned (.agg (bareR m).cells.toArray) ∧ Old w w' := by
 have hone := (bareR_fine h).one
 obtain ⟨kind, pub, ver, there, pv, ps, ⟨n, tm, key, av, es⟩, tb, tl, tc, frm, ⟨fr, en, iv, its, gv, gs, last⟩⟩ := m
 obtain ⟨p1, c1, e1, _, r1⟩ := h.1.1.1.len
 obtain ⟨p2, c2, e2, _, _⟩ := h.2.1.1.len
 obtain ⟨p3, c3, e3, _, _⟩ := h.2.2.1.1.1.len
 obtain ⟨p4, c4, e4, _, _⟩ := h.2.2.1.1.2.2.len
 simp only at e1 e2 e3 e4
 subst e1 e2 e3 e4
 clear h r1
 obtain ⟨m, hm⟩ : ∃ m : Ms, m = ⟨kind, pub, ver, there, .slice p1 ps.length c1, ps, ⟨n, tm, key, .slice p2 es.length c2, es⟩, tb, tl, tc, frm, ⟨fr, en, .slice p3 its.length c3, its, .slice p4 gs.length c4, gs, last⟩⟩ := ⟨_, rfl⟩
 rw [← hm] at hone ⊢
 have hmc : m.cells.toArray = #[.int .i64 kind, .int .i64 pub, .int .u64 ver, .bool there, .slice p1 ps.length c1, .int .u64 n, .int .u64 tm, .string key, .slice p2 es.length c2, .int .i64 tb, .int .u64 tl, .int .u64 tc, .int .u64 frm, .int .u64 fr, .int .u64 en, .slice p3 its.length c3, .slice p4 gs.length c4, .bool last] := by rw [hm]; rfl
 obtain ⟨W0, hW0⟩ : ∃ W0, (w.alloc (.cells m.cells.toArray 37)).alloc (.cells zeroMs.cells.toArray 37) = W0 := ⟨_, rfl⟩
 have k0 : Old w W0 := by rw [← hW0]; exact ((Keeps.refl _ _).alloc _).alloc _
 obtain ⟨b0, b1⟩ := two_blocks w (.cells m.cells.toArray 37) (.cells zeroMs.cells.toArray 37)
 rw [hW0] at b0 b1
 obtain ⟨W1, hst, b2, kb⟩ := store_msgR b1 (bareR m) hone
 have k1 : Old w W1 := k0.then kb (fun i hi e => by omega)
 have gl := load_whole b2 (by simp [Ms.cells]) Tryz.underlying37 (by kernel_rfl)
 obtain ⟨a1, a2, a3, a4, a5, a6, a7, _, _, _, a8, a9⟩ := partsR b0
 rw [hmc] at hW0 ⊢
 have K := Lib.hid (And.intro k1 gl)
 have HM := Lib.hid hm
 rw [hm] at a1 a2 a3 a4 a5 a6 a7 a8 a9
 simp only [It.cells, Pg.cells] at a1 a2 a3 a4 a5 a6 a7 a8 a9
 change (w.alloc (.cells #[.int .i64 kind, .int .i64 pub, .int .u64 ver, .bool there, .slice p1 ps.length c1, .int .u64 n, .int .u64 tm, .string key, .slice p2 es.length c2, .int .i64 tb, .int .u64 tl, .int .u64 tc, .int .u64 frm, .int .u64 fr, .int .u64 en, .slice p3 its.length c3, .slice p4 gs.length c4, .bool last] 37)).alloc (.cells #[.int .i64 0, .int .i64 0, .int .u64 0, .bool false, .slice none 0 0, .int .u64 0, .int .u64 0, .string ⟨#[]⟩, .slice none 0 0, .int .i64 0, .int .u64 0, .int .u64 0, .int .u64 0, .int .u64 0, .int .u64 0, .slice none 0 0, .slice none 0 0, .bool false] 37) = W0 at hW0
 clear b0 b1 k0 k1 kb gl hmc b2 hone
 by_cases h1 : kind = 1
 ·subst h1
  cases there
  ·have hb : (bareR m).cells.toArray = #[.int .i64 1, .int .i64 pub, .int .u64 ver, .bool false, .slice none 0 0, .int .u64 0, .int .u64 0, .string ⟨#[]⟩, .slice none 0 0, .int .i64 0, .int .u64 0, .int .u64 0, .int .u64 0, .int .u64 0, .int .u64 0, .slice none 0 0, .slice none 0 0, .bool false] := by rw [hm]; rfl
   rw [hb] at hst K ⊢
   clear hb hm HM
   go_enter Tryz.func58, Tryz.ntmps58
   go_wp2_with fail
   have gl := K.out.2
   exact bodyPost_ret (by simp [results, Tryz.results58, go_sem, gl]) rfl ⟨rfl, K.out.1⟩
  ·have hb : (bareR m).cells.toArray = #[.int .i64 1, .int .i64 pub, .int .u64 ver, .bool true, .slice p1 ps.length c1, .int .u64 0, .int .u64 0, .string ⟨#[]⟩, .slice none 0 0, .int .i64 0, .int .u64 0, .int .u64 0, .int .u64 0, .int .u64 0, .int .u64 0, .slice none 0 0, .slice none 0 0, .bool false] := by rw [hm]; rfl
   rw [hb] at hst K ⊢
   clear hb hm HM
   go_enter Tryz.func58, Tryz.ntmps58
   go_wp2_with fail
   have gl := K.out.2
   exact bodyPost_ret (by simp [results, Tryz.results58, go_sem, gl]) rfl ⟨rfl, K.out.1⟩
 by_cases h2 : kind = 2
 ·subst h2
  have hb : (bareR m).cells.toArray = #[.int .i64 2, .int .i64 0, .int .u64 0, .bool false, .slice p1 ps.length c1, .int .u64 0, .int .u64 0, .string ⟨#[]⟩, .slice none 0 0, .int .i64 0, .int .u64 0, .int .u64 0, .int .u64 0, .int .u64 0, .int .u64 0, .slice none 0 0, .slice none 0 0, .bool false] := by rw [hm]; rfl
  rw [hb] at hst K ⊢
  clear hb hm HM
  go_enter Tryz.func58, Tryz.ntmps58
  go_wp2_with fail
  have gl := K.out.2
  exact bodyPost_ret (by simp [results, Tryz.results58, go_sem, gl]) rfl ⟨rfl, K.out.1⟩
 by_cases h3 : kind = 3
 ·subst h3
  have hb : (bareR m).cells.toArray = #[.int .i64 3, .int .i64 0, .int .u64 0, .bool false, .slice p1 ps.length c1, .int .u64 0, .int .u64 0, .string ⟨#[]⟩, .slice none 0 0, .int .i64 0, .int .u64 0, .int .u64 0, .int .u64 0, .int .u64 0, .int .u64 0, .slice none 0 0, .slice none 0 0, .bool false] := by rw [hm]; rfl
  rw [hb] at hst K ⊢
  clear hb hm HM
  go_enter Tryz.func58, Tryz.ntmps58
  go_wp2_with fail
  have gl := K.out.2
  exact bodyPost_ret (by simp [results, Tryz.results58, go_sem, gl]) rfl ⟨rfl, K.out.1⟩
 by_cases h4 : kind = 4
 ·subst h4
  have hb : (bareR m).cells.toArray = #[.int .i64 4, .int .i64 pub, .int .u64 0, .bool false, .slice none 0 0, .int .u64 n, .int .u64 tm, .string key, .slice p2 es.length c2, .int .i64 0, .int .u64 0, .int .u64 0, .int .u64 0, .int .u64 0, .int .u64 0, .slice none 0 0, .slice none 0 0, .bool false] := by rw [hm]; rfl
  rw [hb] at hst K ⊢
  clear hb hm HM
  go_enter Tryz.func58, Tryz.ntmps58
  go_wp2_with fail
  have gl := K.out.2
  exact bodyPost_ret (by simp [results, Tryz.results58, go_sem, gl]) rfl ⟨rfl, K.out.1⟩
 by_cases h5 : kind = 5
 ·subst h5
  have hb : (bareR m).cells.toArray = #[.int .i64 5, .int .i64 pub, .int .u64 0, .bool false, .slice p1 ps.length c1, .int .u64 0, .int .u64 0, .string ⟨#[]⟩, .slice none 0 0, .int .i64 tb, .int .u64 tl, .int .u64 tc, .int .u64 frm, .int .u64 0, .int .u64 0, .slice none 0 0, .slice none 0 0, .bool false] := by rw [hm]; rfl
  rw [hb] at hst K ⊢
  clear hb hm HM
  go_enter Tryz.func58, Tryz.ntmps58
  go_wp2_with fail
  have gl := K.out.2
  exact bodyPost_ret (by simp [results, Tryz.results58, go_sem, gl]) rfl ⟨rfl, K.out.1⟩
 by_cases h6 : kind = 6
 ·subst h6
  have hb : (bareR m).cells.toArray = #[.int .i64 6, .int .i64 pub, .int .u64 0, .bool false, .slice none 0 0, .int .u64 0, .int .u64 0, .string ⟨#[]⟩, .slice none 0 0, .int .i64 tb, .int .u64 tl, .int .u64 tc, .int .u64 0, .int .u64 fr, .int .u64 en, .slice p3 its.length c3, .slice p4 gs.length c4, .bool last] := by rw [hm]; rfl
  rw [hb] at hst K ⊢
  clear hb hm HM
  go_enter Tryz.func58, Tryz.ntmps58
  go_wp2_with fail
  have gl := K.out.2
  exact bodyPost_ret (by simp [results, Tryz.results58, go_sem, gl]) rfl ⟨rfl, K.out.1⟩
 have f1 : (kind == 1) = false := by simp [h1]
 have f2 : (kind == 2) = false := by simp [h2]
 have f3 : (kind == 3) = false := by simp [h3]
 have f4 : (kind == 4) = false := by simp [h4]
 have f5 : (kind == 5) = false := by simp [h5]
 have f6 : (kind == 6) = false := by simp [h6]
 have hb : (bareR m).cells.toArray = #[.int .i64 0, .int .i64 0, .int .u64 0, .bool false, .slice none 0 0, .int .u64 0, .int .u64 0, .string ⟨#[]⟩, .slice none 0 0, .int .i64 0, .int .u64 0, .int .u64 0, .int .u64 0, .int .u64 0, .int .u64 0, .slice none 0 0, .slice none 0 0, .bool false] := by rw [hm]; unfold bareR; simp only [if_neg h1, if_neg h2, if_neg h3, if_neg h4, if_neg h5, if_neg h6]; rfl
 rw [hb] at hst K ⊢
 clear hb hm HM h1 h2 h3 h4 h5 h6
 go_enter Tryz.func58, Tryz.ntmps58
 go_wp2_with fail
 have gl := K.out.2
 exact bodyPost_ret (by simp [results, Tryz.results58, go_sem, gl]) rfl ⟨rfl, K.out.1⟩
end
section
open Go.RowKit
abbrev r0 (m : Ms) : Ms := { zeroMs with kind := 1, pub := m.pub, ver := m.ver, there := true, pv := m.pv, ps := m.ps }
abbrev r1 (m : Ms) : Ms := { zeroMs with kind := 2, pv := m.pv, ps := m.ps }
abbrev r2 (m : Ms) : Ms := { zeroMs with kind := 3, pv := m.pv, ps := m.ps }
abbrev r3 (m : Ms) : Ms := { zeroMs with kind := 4, pub := m.pub, it := m.it }
abbrev r4 (m : Ms) : Ms := { zeroMs with kind := 5, pub := m.pub, tb := m.tb, tl := m.tl, tc := m.tc, pv := m.pv, ps := m.ps, frm := m.frm }
abbrev r5 (m : Ms) : Ms := { zeroMs with kind := 6, pub := m.pub, tb := m.tb, tl := m.tl, tc := m.tc, pg := m.pg }
theorem range8 : List.range 8 = [0, 1, 2, 3, 4, 5, 6, 7] := by decide
theorem mayM_eq (m : PMs) : mayM m = ((partOk m 0 && (partOk m 1 && (partOk m 2 && (partOk m 3 && (partOk m 4 && (partOk m 5 && (partOk m 6 && partOk m 7))))))) && decide (0 < (partsL m.kind).length)) := by
 unfold mayM
 rw [range8]
 simp
theorem six {i : Nat} (h : i < 6) : i = 0 ∨ i = 1 ∨ i = 2 ∨ i = 3 ∨ i = 4 ∨ i = 5 := by omega
end
section
open Go.RowKit
def bareP (m : PMs) : PMs :=
 if m.kind = 1 then (if m.there = true then { noMs with kind := 1, pub := m.pub, ver := m.ver, there := true, ps := m.ps } else { noMs with kind := 1, pub := m.pub, ver := m.ver })
 else if m.kind = 2 then { noMs with kind := 2, ps := m.ps } else if m.kind = 3 then { noMs with kind := 3, ps := m.ps }
 else if m.kind = 4 then { noMs with kind := 4, pub := m.pub, it := m.it } else if m.kind = 5 then { noMs with kind := 5, pub := m.pub, tb := m.tb, tl := m.tl, tc := m.tc, ps := m.ps, frm := m.frm }
 else if m.kind = 6 then { noMs with kind := 6, pub := m.pub, tb := m.tb, tl := m.tl, tc := m.tc, pg := m.pg } else noMs
theorem bareR_plain (m : Ms) : (bareR m).plain = bareP m.plain := by
 have e1 : m.plain.kind = m.kind := rfl
 have e2 : m.plain.there = m.there := rfl
 unfold bareR bareP
 rw [e1, e2]
 repeat' split
 all_goals rfl
def mayR (m : PMs) : Bool := (decide (1 ≤ m.kind) && (decide (m.kind ≤ 6) && (sameM (bareP m) m && decide (0 ≤ homeZ m.pub)))) && ((!(m.kind == 1) || numOk m.ver) && ((!(decide (5 ≤ m.kind)) || (decide (0 ≤ m.tb) && (decide (m.tb ≤ 63) && (numOk m.tl && numOk m.tc)))) && (((!(m.kind == 4) || itOk m.it) && ((!(m.kind == 6) || pgOk m.pg) && (!(m.kind == 5) || (decide (1 ≤ m.frm) && decide (m.frm ≤ 1099511627777))))) && okP m.ps)))
theorem okP_nil : okP [] = true := by decide +kernel
theorem home_zero : homeZ 0 = 0 := by decide
theorem mayR_eq (m : PMs) : mayR m = mayM m := by
 have o := okP_nil
 have z := home_zero
 rw [Bool.eq_iff_iff]
 obtain ⟨kind, pub, ver, there, ps, it, tb, tl, tc, frm, pg⟩ := m
 by_cases h1 : kind = 1
 ·subst h1
  cases there
  ·simp [mayR, mayM_eq, partOk, partsL, rightM, bareM, bareP, sameM_iff, noMs, sameI_iff, sameG_iff]
   grind
  ·simp [mayR, mayM_eq, partOk, partsL, rightM, bareM, bareP, sameM_iff, noMs, sameI_iff, sameG_iff]
   grind
 by_cases h2 : kind = 2
 ·subst h2
  simp [mayR, mayM_eq, partOk, partsL, rightM, bareM, bareP, sameM_iff, noMs, sameI_iff, sameG_iff]
  grind
 by_cases h3 : kind = 3
 ·subst h3
  simp [mayR, mayM_eq, partOk, partsL, rightM, bareM, bareP, sameM_iff, noMs, sameI_iff, sameG_iff]
  grind
 by_cases h4 : kind = 4
 ·subst h4
  simp [mayR, mayM_eq, partOk, partsL, rightM, bareM, bareP, sameM_iff, noMs, sameG_iff]
  grind
 by_cases h5 : kind = 5
 ·subst h5
  simp [mayR, mayM_eq, partOk, partsL, rightM, bareM, bareP, sameM_iff, noMs, sameI_iff, sameG_iff]
  grind
 by_cases h6 : kind = 6
 ·subst h6
  simp [mayR, mayM_eq, partOk, partsL, rightM, bareM, bareP, sameM_iff, noMs, sameI_iff]
  grind
 ·have hl : partsL kind = [] := by unfold partsL; simp [h1, h2, h3, h4, h5, h6]
  constructor
  ·intro h
   unfold mayR at h
   simp only [Bool.and_eq_true, decide_eq_true_eq] at h
   omega
  ·intro h
   rw [mayM_eq] at h
   simp [hl] at h
end
section
open Go.RowKit Go.Great
attribute [-go_sem] loadVar storeVar
theorem ref21_may_any (m : Ms) (w : World) (h : m.fine w) : Calls Tryz.prog 16 #[.agg m.cells.toArray] w fun e w' => e = .returned (.bool (mayM m.plain)) ∧ Old w w' := by
 rw [← mayR_eq]
 have CB := Lib.hid (fun W (k : Old w W) => ref21_bare_any m W (Ms.fine.old h k))
 have CS := fun W (k : Old w W) => ref21_same_any (bareR m) m W (bareR_fine (Ms.fine.old h k)) (Ms.fine.old h k)
 have CH := Lib.hid (fun W => ref21_home_any m.pub W h.2.2.2.1.2.1)
 have CI := fun W (k : Old w W) => ref_may_item_any m.it W (It.fine.old h.2.1 k)
 have CG := fun W (k : Old w W) => ref_may_page_any m.pg W (Pg.fine.old h.2.2.1 k)
 have CP := fun W (k : Old w W) => ref_may_pred_any m.pv m.ps W (h.1.1.old k)
 rw [bareR_plain] at CS
 rw [predOk_plain] at CP
 have hmr : mayR m.plain = ((decide (1 ≤ m.kind) && (decide (m.kind ≤ 6) && (sameM (bareP m.plain) m.plain && decide (0 ≤ homeZ m.pub)))) && ((!(m.kind == 1) || (decide (1 ≤ m.ver) && decide (m.ver ≤ 1099511627776))) && ((!(decide (5 ≤ m.kind)) || (decide (0 ≤ m.tb) && (decide (m.tb ≤ 63) && ((decide (1 ≤ m.tl) && decide (m.tl ≤ 1099511627776)) && (decide (1 ≤ m.tc) && decide (m.tc ≤ 1099511627776)))))) && (((!(m.kind == 4) || itOk m.it.plain) && ((!(m.kind == 6) || pgOk m.pg.plain) && (!(m.kind == 5) || (decide (1 ≤ m.frm) && decide (m.frm ≤ 1099511627777))))) && okP (m.ps.map Con.plain))))) := rfl
 rw [hmr]
 clear hmr
 generalize sameM (bareP m.plain) m.plain = s at CS ⊢
 generalize itOk m.it.plain = yi at CI ⊢
 generalize pgOk m.pg.plain = yg at CG ⊢
 generalize okP (m.ps.map Con.plain) = yp at CP ⊢
 obtain ⟨k1, a1⟩ : ∃ b, decide (1 ≤ m.kind) = b := ⟨_, rfl⟩
 obtain ⟨k6, a6⟩ : ∃ b, decide (m.kind ≤ 6) = b := ⟨_, rfl⟩
 obtain ⟨zh, ah⟩ : ∃ b, decide (0 ≤ homeZ m.pub) = b := ⟨_, rfl⟩
 obtain ⟨q1, c1⟩ : ∃ b, (m.kind == 1) = b := ⟨_, rfl⟩
 obtain ⟨v1, d1⟩ : ∃ b, decide (1 ≤ m.ver) = b := ⟨_, rfl⟩
 obtain ⟨v2, d2⟩ : ∃ b, decide (m.ver ≤ 1099511627776) = b := ⟨_, rfl⟩
 obtain ⟨q5, c5⟩ : ∃ b, decide (5 ≤ m.kind) = b := ⟨_, rfl⟩
 obtain ⟨t1, f1⟩ : ∃ b, decide (0 ≤ m.tb) = b := ⟨_, rfl⟩
 obtain ⟨t2, f2⟩ : ∃ b, decide (m.tb ≤ 63) = b := ⟨_, rfl⟩
 obtain ⟨t3, f3⟩ : ∃ b, decide (1 ≤ m.tl) = b := ⟨_, rfl⟩
 obtain ⟨t4, f4⟩ : ∃ b, decide (m.tl ≤ 1099511627776) = b := ⟨_, rfl⟩
 obtain ⟨t5, f5⟩ : ∃ b, decide (1 ≤ m.tc) = b := ⟨_, rfl⟩
 obtain ⟨t6, f6⟩ : ∃ b, decide (m.tc ≤ 1099511627776) = b := ⟨_, rfl⟩
 obtain ⟨e4, g4⟩ : ∃ b, (m.kind == 4) = b := ⟨_, rfl⟩
 obtain ⟨e6, g6⟩ : ∃ b, (m.kind == 6) = b := ⟨_, rfl⟩
 obtain ⟨e5, g5⟩ : ∃ b, (m.kind == 5) = b := ⟨_, rfl⟩
 obtain ⟨x1, n1⟩ : ∃ b, decide (1 ≤ m.frm) = b := ⟨_, rfl⟩
 obtain ⟨x2, n2⟩ : ∃ b, decide (m.frm ≤ 1099511627777) = b := ⟨_, rfl⟩
 rw [a1, a6, ah, c1, d1, d2, c5, f1, f2, f3, f4, f5, f6, g4, g6, g5, n1, n2]
 have a1' : decide (m.kind < 1) = !k1 := by rw [← a1, Bool.eq_iff_iff]; simp
 have a6' : decide (6 < m.kind) = !k6 := by rw [← a6, Bool.eq_iff_iff]; simp
 have ah' : decide (homeZ m.pub < 0) = !zh := by rw [← ah, Bool.eq_iff_iff]; simp
 have d1' : decide ((m.ver : Int) < 1) = !v1 := by rw [← d1, Bool.eq_iff_iff]; simp; omega
 have d2' : decide (1099511627776 < (m.ver : Int)) = !v2 := by rw [← d2, Bool.eq_iff_iff]; simp; omega
 have f1' : decide (m.tb < 0) = !t1 := by rw [← f1, Bool.eq_iff_iff]; simp
 have f2' : decide (63 < m.tb) = !t2 := by rw [← f2, Bool.eq_iff_iff]; simp
 have f3' : decide ((m.tl : Int) < 1) = !t3 := by rw [← f3, Bool.eq_iff_iff]; simp; omega
 have f4' : decide (1099511627776 < (m.tl : Int)) = !t4 := by rw [← f4, Bool.eq_iff_iff]; simp; omega
 have f5' : decide ((m.tc : Int) < 1) = !t5 := by rw [← f5, Bool.eq_iff_iff]; simp; omega
 have f6' : decide (1099511627776 < (m.tc : Int)) = !t6 := by rw [← f6, Bool.eq_iff_iff]; simp; omega
 have n1' : decide ((m.frm : Int) < 1) = !x1 := by rw [← n1, Bool.eq_iff_iff]; simp; omega
 have n2' : decide (1099511627777 < (m.frm : Int)) = !x2 := by rw [← n2, Bool.eq_iff_iff]; simp; omega
 obtain ⟨W0, hW0⟩ : ∃ W0, w.alloc (.cells m.cells.toArray 37) = W0 := ⟨_, rfl⟩
 have k0 : Old w W0 := by rw [← hW0]; exact (Keeps.refl _ _).alloc _
 have b0 : RAt W0 w.heap.size m := by rw [← hW0]; exact heap_alloc_new _ _
 have B := Lib.hid (And.intro k0 b0)
 have HC := Lib.hid (And.intro CS (And.intro CI (And.intro CG CP)))
 have LW := Lib.hid (fun W (o : Old W0 W) => (load_whole ((o.block _ (lt_of_heap b0) (fun f => f)).trans b0) (by simp [Ms.cells]) Tryz.underlying37 (by kernel_rfl) : (loadVar 37 ⟨w.heap.size, 0, none⟩).run Tryz.prog W = .ok (.agg m.cells.toArray) W))
 have LP := Lib.hid (fun W (o : Old W0 W) => partsR ((o.block _ (lt_of_heap b0) (fun f => f)).trans b0))
 clear k0 b0 CS CI CG CP h a1 a6 ah d1 d2 f1 f2 f3 f4 f5 f6 n1 n2
 go_enter Tryz.func16, Tryz.ntmps16
 go_upto_region 1 with fail
 go_cut [24] (fun v wc => v = .bool (!(k1 && (k6 && (s && zh)))) ∧ Old W0 wc)
 case first =>
  as_aux_lemma =>
   have gK := fun q : OldOf W0 => (LP.out q.to q.old).kind
   have gP := fun q : OldOf W0 => (LP.out q.to q.old).pub
   have gW := fun q : OldOf W0 => LW.out q.to q.old
   have QB := Lib.hid (fun q : OldOf W0 => Calls.quiet_of_old (p := q) (CB.out q.to (B.out.1.trans q.old)))
   have QS := Lib.hid (fun q : OldOf W0 => Calls.quiet_of_old (p := q) (HC.out.1 q.to (B.out.1.trans q.old)))
   have QH := Lib.hid (fun q : OldOf W0 => Calls.quiet_of_old (p := q) ((CH.out q.to).mono fun e w' he => (⟨he.1, he.2 ▸ Keeps.refl _ _⟩ : e = .returned (.int .i64 (homeZ m.pub)) ∧ Old q.to w')))
   clear c1 c5 d1' d2' f1' f2' f3' f4' f5' f6' n1' n2' g4 g5 g6
   cases k1
   ·refine wp_region_quiet_old (by kernel_rfl) (by kernel_rfl) ?_
    repeat (go_big_quiet_step (((fail))))
    refine wpQuiet_nil ?_
    intro _ hpq
    obtain ⟨pq, hpq'⟩ := hpq
    subst hpq'
    go_wp2_with fail
    go_meet
    case rel => exact ⟨rfl, pq.old⟩
   cases k6
   ·refine wp_region_quiet_old (by kernel_rfl) (by kernel_rfl) ?_
    repeat (go_big_quiet_step (((fail))))
    refine wpQuiet_nil ?_
    intro _ hpq
    obtain ⟨pq, hpq'⟩ := hpq
    subst hpq'
    go_wp2_with fail
    go_meet
    case rel => exact ⟨rfl, pq.old⟩
   cases s
   ·refine wp_region_quiet_old (by kernel_rfl) (by kernel_rfl) ?_
    repeat (go_big_quiet_step (((first | (go_at_call 58; exact QB.out _) | (go_at_call 13; exact QS.out _)))))
    refine wpQuiet_nil ?_
    intro _ hpq
    obtain ⟨pq, hpq'⟩ := hpq
    subst hpq'
    go_wp2_with fail
    go_meet
    case rel => exact ⟨rfl, pq.old⟩
   refine wp_region_quiet_old (by kernel_rfl) (by kernel_rfl) ?_
   repeat (go_big_quiet_step (((first | (go_at_call 58; exact QB.out _) | (go_at_call 13; exact QS.out _) | (go_at_call 19; exact QH.out _)))))
   refine wpQuiet_nil ?_
   intro _ hpq
   obtain ⟨pq, hpq'⟩ := hpq
   subst hpq'
   go_wp2_with fail
   go_meet
   case rel => exact ⟨by simp, pq.old⟩
 obtain ⟨rfl, o1⟩ := hcut
 have K1 := Lib.hid o1
 clear o1
 obtain ⟨y1, hy1⟩ : ∃ y, (k1 && (k6 && (s && zh))) = y := ⟨_, rfl⟩
 rw [hy1]
 have HY1 := Lib.hid hy1
 clear hy1 a1' a6' ah'
 -- SECOND
 cases y1
 ·go_wp2_with fail
  go_ret
  exact ⟨by rw [HY1.out]; simp, B.out.1.trans K1.out⟩
 have PW := LP.out wc K1.out
 have pk := PW.kind
 have pv := PW.ver
 go_upto_region 3 with fail
 go_cut [37] (fun v wd => v = .bool (!(!q1 || (v1 && v2))) ∧ wc = wd)
 case first =>
  as_aux_lemma =>
   clear c5 f1' f2' f3' f4' f5' f6' n1' n2' g4 g5 g6
   cases q1
   ·go_wp2_with fail
    go_meet
    case rel => exact ⟨by simp, rfl⟩
   cases v1
   ·go_wp2_with fail
    go_meet
    case rel => exact ⟨by simp, rfl⟩
   cases v2
   ·go_wp2_with fail
    go_meet
    case rel => exact ⟨by simp, rfl⟩
   go_wp2_with fail
   go_meet
   case rel => exact ⟨by simp, rfl⟩
 obtain ⟨rfl, rfl⟩ := hcut
 obtain ⟨y2, hy2⟩ : ∃ y, (!q1 || (v1 && v2)) = y := ⟨_, rfl⟩
 rw [hy2]
 have HY2 := Lib.hid hy2
 clear hy2 d1' d2' c1 pv
 cases y2
 ·go_wp2_with fail
  go_ret
  exact ⟨by rw [HY1.out, HY2.out]; simp, B.out.1.trans K1.out⟩
 have PT := PW.tok
 obtain ⟨Wa, hWa⟩ : ∃ W, wc.alloc (.cells #[.int .i64 0, .int .u64 0, .int .u64 0] 31) = W := ⟨_, rfl⟩
 have ba : Wa.heap[wc.heap.size]? = some (.cells #[.int .i64 0, .int .u64 0, .int .u64 0] 31 (0, 0)) := by rw [← hWa]; exact heap_alloc_new _ _
 have oa : Old wc Wa := by rw [← hWa]; exact (Keeps.refl _ _).alloc _
 obtain ⟨Wb, hst, bb, kb⟩ := store_cells ba (ty := 31) #[.int .i64 m.tb, .int .u64 m.tl, .int .u64 m.tc] (by simp) (by kernel_rfl) (by simp [Value.oneCell']) (putRange_whole (by simp))
 have ob : Old wc Wb := oa.then kb (fun i hi e => by omega)
 have l0 : (loadVar 3 ⟨wc.heap.size, 0, none⟩).run Tryz.prog Wb = .ok (.int .i64 m.tb) Wb := (show (load _).run Tryz.prog Wb = _ from load_cell1 (by simp [World.cell?, bb]))
 have l1 : (loadVar 22 ⟨wc.heap.size, 1, none⟩).run Tryz.prog Wb = .ok (.int .u64 m.tl) Wb := (show (load _).run Tryz.prog Wb = _ from load_cell1 (by simp [World.cell?, bb]))
 have l2 : (loadVar 22 ⟨wc.heap.size, 2, none⟩).run Tryz.prog Wb = .ok (.int .u64 m.tc) Wb := (show (load _).run Tryz.prog Wb = _ from load_cell1 (by simp [World.cell?, bb]))
 have KB := Lib.hid (K1.out.trans ob)
 have OB := Lib.hid ob
 clear ba oa bb kb ob
 have c5' : decide (m.kind ≥ 5) = q5 := c5
 go_upto_if 40 with fail
 go_cut [] (fun wd => Old wc wd ∧ (!q5 || (t1 && (t2 && ((t3 && t4) && (t5 && t6))))) = true)
 case first =>
  as_aux_lemma =>
   clear n1' n2' g4 g5 g6
   cases q5
   ·go_wp2_with fail
    go_meet
    case rel => exact ⟨Keeps.refl _ _, rfl⟩
   cases t1
   ·go_wp2_with fail
    go_ret
    exact ⟨by rw [HY1.out, HY2.out]; simp, B.out.1.trans KB.out⟩
   cases t2
   ·go_wp2_with fail
    go_ret
    exact ⟨by rw [HY1.out, HY2.out]; simp, B.out.1.trans KB.out⟩
   cases t3
   ·go_wp2_with fail
    go_ret
    exact ⟨by rw [HY1.out, HY2.out]; simp, B.out.1.trans KB.out⟩
   cases t4
   ·go_wp2_with fail
    go_ret
    exact ⟨by rw [HY1.out, HY2.out]; simp, B.out.1.trans KB.out⟩
   cases t5
   ·go_wp2_with fail
    go_ret
    exact ⟨by rw [HY1.out, HY2.out]; simp, B.out.1.trans KB.out⟩
   cases t6
   ·go_wp2_with fail
    go_ret
    exact ⟨by rw [HY1.out, HY2.out]; simp, B.out.1.trans KB.out⟩
   go_wp2_with fail
   go_meet
   case rel => exact ⟨OB.out, rfl⟩
 obtain ⟨o3, hy3⟩ := hcut
 have K3 := Lib.hid (K1.out.trans o3)
 have HY3 := Lib.hid hy3
 clear o3 hy3 hWa hst l0 l1 l2 KB OB c5 c5' f1' f2' f3' f4' f5' f6' pk PT PW
 have PW := LP.out _ K3.out
 have pk := PW.kind
 have pi := PW.item
 have pg := PW.page
 have pf := PW.frm
 go_upto_region 9 with fail
 go_cut [105] (fun v we => v = .bool (!((!e4 || yi) && ((!e6 || yg) && (!e5 || (x1 && x2))))) ∧ Old W0 we)
 case first =>
  as_aux_lemma =>
   cases e4
   ·skip
    cases e6
    ·skip
     cases e5
     ·go_wp2_with fail
      go_meet
      case rel => exact ⟨by simp, K3.out⟩
     cases x1
     ·go_wp2_with fail
      go_meet
      case rel => exact ⟨by simp, K3.out⟩
     cases x2
     ·go_wp2_with fail
      go_meet
      case rel => exact ⟨by simp, K3.out⟩
     go_wp2_with fail
     go_meet
     case rel => exact ⟨by simp, K3.out⟩
    ·go_wp2_with fail
     refine (HC.out.2.2.1 _ (B.out.1.trans (K3.out))).mono ?_
     rintro e w5 ⟨rfl, k5⟩
     have N5 := Lib.hid ((K3.out).trans k5)
     have PN := LP.out _ N5.out
     have pk := PN.kind
     have pf := PN.frm
     clear k5 PN pi pg
     cases yg
     ·go_wp2_with fail
      go_meet
      case rel => exact ⟨by simp, N5.out⟩
     cases e5
     ·go_wp2_with fail
      go_meet
      case rel => exact ⟨by simp, N5.out⟩
     cases x1
     ·go_wp2_with fail
      go_meet
      case rel => exact ⟨by simp, N5.out⟩
     cases x2
     ·go_wp2_with fail
      go_meet
      case rel => exact ⟨by simp, N5.out⟩
     go_wp2_with fail
     go_meet
     case rel => exact ⟨by simp, N5.out⟩
   ·go_wp2_with fail
    refine (HC.out.2.1 _ (B.out.1.trans K3.out)).mono ?_
    rintro e w6 ⟨rfl, k6'⟩
    have N6 := Lib.hid (K3.out.trans k6')
    have PN := LP.out _ N6.out
    have pk := PN.kind
    have pf := PN.frm
    have pg := PN.page
    clear k6' PN pi
    have pi := True.intro
    cases yi
    ·go_wp2_with fail
     go_meet
     case rel => exact ⟨by simp, N6.out⟩
    cases e6
    ·skip
     cases e5
     ·go_wp2_with fail
      go_meet
      case rel => exact ⟨by simp, N6.out⟩
     cases x1
     ·go_wp2_with fail
      go_meet
      case rel => exact ⟨by simp, N6.out⟩
     cases x2
     ·go_wp2_with fail
      go_meet
      case rel => exact ⟨by simp, N6.out⟩
     go_wp2_with fail
     go_meet
     case rel => exact ⟨by simp, N6.out⟩
    ·go_wp2_with fail
     refine (HC.out.2.2.1 _ (B.out.1.trans (N6.out))).mono ?_
     rintro e w7 ⟨rfl, k7⟩
     have N7 := Lib.hid ((N6.out).trans k7)
     have PN := LP.out _ N7.out
     have pk := PN.kind
     have pf := PN.frm
     clear k7 PN pi pg
     cases yg
     ·go_wp2_with fail
      go_meet
      case rel => exact ⟨by simp, N7.out⟩
     cases e5
     ·go_wp2_with fail
      go_meet
      case rel => exact ⟨by simp, N7.out⟩
     cases x1
     ·go_wp2_with fail
      go_meet
      case rel => exact ⟨by simp, N7.out⟩
     cases x2
     ·go_wp2_with fail
      go_meet
      case rel => exact ⟨by simp, N7.out⟩
     go_wp2_with fail
     go_meet
     case rel => exact ⟨by simp, N7.out⟩
 obtain ⟨rfl, o4⟩ := hcut
 obtain ⟨y4, hy4⟩ : ∃ y, ((!e4 || yi) && ((!e6 || yg) && (!e5 || (x1 && x2)))) = y := ⟨_, rfl⟩
 rw [hy4]
 have HY4 := Lib.hid hy4
 have K4 := Lib.hid o4
 clear hy4 o4 g4 g5 g6 n1' n2' pk pi pg pf PW
 cases y4
 ·go_wp2_with fail
  go_ret
  exact ⟨by rw [HY1.out, HY2.out, HY3.out, HY4.out]; simp, B.out.1.trans K4.out⟩
 have pp := (LP.out _ K4.out).pred
 go_wp2_with fail
 refine (HC.out.2.2.2 _ (B.out.1.trans K4.out)).mono ?_
 rintro e w8 ⟨rfl, k8⟩
 have K8 := Lib.hid (K4.out.trans k8)
 clear k8 pp
 go_wp2_with fail
 go_ret
 exact ⟨by rw [HY1.out, HY2.out, HY3.out, HY4.out]; simp, B.out.1.trans K8.out⟩
end
end Go.Proofs.YtpjpimahnnekkaaGreat
