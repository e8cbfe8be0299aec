/- DERIVED. codec.PutPage. · DERIVED. Plain: items, constraints, predicates, gaps, pages: what is read, laid, is what went, and back. -/
import Derived.Test.YtpjpimahnnekkaaGreatYpMsgForms17
set_option maxRecDepth 100000
set_option maxHeartbeats 4000000
namespace Go.Proofs.YtpjpimahnnekkaaGreat
section
open Go.RowKit
def gapForm (g : PGap) : List UInt8 := form g.1 ++ form g.2
def pageForm (x : PPg) : List UInt8 := form x.fr ++ form x.en ++ form x.items.length ++ x.items.flatMap itForm ++ form x.gaps.length ++ x.gaps.flatMap gapForm ++ form (if x.last then 1 else 0)
theorem itsOk_mem (en : Nat) : ∀ (l : List PIt) (a : Nat), itsOk en a l = true → ∀ x ∈ l, itOk x = true
 | [], _, _, x, hx => by cases hx
 | y :: r, a, h, x, hx => by
  rw [itsOk] at h
  simp only [Bool.and_eq_true] at h
  rcases List.mem_cons.1 hx with rfl | hx
  ·exact h.1
  ·exact itsOk_mem en r _ h.2.2.2 x hx
theorem its_le {l : List It} (h : ∀ x ∈ l, itOk x.plain = true) (hf : ∀ x ∈ l, Fits x.es) : ((l.map It.plain).flatMap itForm).length ≤ 820 * l.length := by
 induction l with
 | nil => simp
 | cons x r ih =>
  have h1 := itForm_le (h x (by simp)) (hf x (by simp))
  have h2 := ih (fun y hy => h y (by simp [hy])) (fun y hy => hf y (by simp [hy]))
  simp only [List.map_cons, List.flatMap_cons, List.length_append, List.length_cons]
  omega
theorem gaps_le {l : List PGap} (h : ∀ g ∈ l, g.1 < 18446744073709551616 ∧ g.2 < 18446744073709551616) : (l.flatMap gapForm).length ≤ 20 * l.length := by
 induction l with
 | nil => simp
 | cons x r ih =>
  have h1 : (form x.1).length ≤ 10 := form_le10 (h x (by simp)).1
  have h2 : (form x.2).length ≤ 10 := form_le10 (h x (by simp)).2
  have h3 := ih (fun y hy => h y (by simp [hy]))
  simp only [List.flatMap_cons, List.length_append, List.length_cons, gapForm]
  omega
theorem put_page1_any (B pw eb : Nat) (l : List UInt8) (x : Pg) (w : World) (h : Wr w B pw l) (hl : l.length ≤ 999900000)
  (hb : w.heap[eb]? = some (.cells x.cells.toArray 35 (0, 0))) (hf : x.fine w) (hne : 0 < x.its.length → ∀ k, x.iv.ownBlock = some k → k ≠ pw) (hng : 0 < x.gs.length → ∀ k, x.gv.ownBlock = some k → k ≠ pw)
  (hnx : ∀ y ∈ x.its, 0 < y.es.length → ∀ k, y.av.ownBlock = some k → k ≠ pw) (hok : pgOk x.plain = true) :
  Calls Tryz.prog 78 #[.pointer (some ⟨pw, 0, none⟩), .pointer (some ⟨eb, 0, none⟩)] w (Laid w B pw (l ++ pageForm x.plain)) := by
 obtain ⟨fr, en, iv, its, gv, gs, last⟩ := x
 obtain ⟨⟨hi, hif, hg⟩, hgr, ⟨hfr, hen⟩, _⟩ := hf
 obtain ⟨p1, c1, e1, i1, i2⟩ := hi.len
 obtain ⟨p2, c2, e2, j1, j2⟩ := hg.len
 simp only at e1 e2 hi hif hg hgr hfr hen i1 i2 j1 j2 hne hng hnx
 subst e1 e2
 have him : its.length ≤ 9223372036854775807 := by unfold maxLen at i2; omega
 have hgm : gs.length ≤ 9223372036854775807 := by unfold maxLen at j2; omega
 unfold pgOk topOk Pg.plain at hok
 simp only [List.length_map, Bool.and_eq_true, decide_eq_true_eq] at hok
 obtain ⟨⟨ha, hb', hc, h4, h16⟩, hio, hgo⟩ := hok
 have hits := itsOk_mem en _ _ hio
 have hits' : ∀ y ∈ its, itOk y.plain = true := fun y hy => hits _ (List.mem_map_of_mem hy)
 have hep : eb ≠ pw := by
  intro e; subst e
  obtain ⟨u, h1, _⟩ := h
  rw [h1] at hb
  simp [Pg.cells] at hb
 unfold Pg.cells at hb
 simp only at hb
 have q0 := (blk5 hb).1
 have f1 : (form fr).length ≤ 10 := form_le10 hfr
 have f2 : (form en).length ≤ 10 := form_le10 hen
 have f3 : (form its.length).length ≤ 10 := form_le10 (by omega)
 have f4 : (form gs.length).length ≤ 10 := form_le10 (by omega)
 have C := Lib.hid (wnum_any B pw l fr w h (by omega) hfr)
 have H := Lib.hid (And.intro hb (And.intro hi (And.intro hif (And.intro hg (And.intro hgr (And.intro hne (And.intro hng (And.intro hnx hits'))))))))
 clear h hb hi hif hg hgr hne hng hnx hits hits' hio hgo
 go_enter Tryz.func78, Tryz.ntmps78
 go_wp2_with fail
 refine C.out.mono ?_
 rintro e w1 ⟨rfl, hwr1, hk1⟩
 have m1 := (hk1.block _ (lt_of_heap H.out.1) hep).trans H.out.1
 have q1 := (blk5 m1).1
 have C2 := Lib.hid (wnum_any B pw _ en w1 hwr1 (by simp only [List.length_append]; omega) hen)
 have R1 := Lib.hid (And.intro hk1 m1)
 clear hwr1 hk1 C m1 q0
 go_wp2_with fail
 refine C2.out.mono ?_
 rintro e w2 ⟨rfl, hwr2, hk2⟩
 have m2 := (hk2.block _ (lt_of_heap R1.out.2) hep).trans R1.out.2
 have q2 := (blk5 m2).1
 have C3 := Lib.hid (wnum_any B pw _ its.length w2 hwr2 (by simp only [List.length_append]; omega) (by omega))
 have R2 := Lib.hid (And.intro (R1.out.1.trans hk2) m2)
 clear hwr2 hk2 C2 m2 q1
 go_wp2_with fail
 refine C3.out.mono ?_
 rintro e w3 ⟨rfl, hwr3, hk3⟩
 have m3 := (hk3.block _ (lt_of_heap R2.out.2) hep).trans R2.out.2
 have q3 := (blk5 m3).1
 obtain ⟨l0, hl0⟩ : ∃ l0, l ++ form fr ++ form en ++ form its.length = l0 := ⟨_, rfl⟩
 rw [hl0] at hwr3
 have hlen0 : l0.length ≤ l.length + 30 := by rw [← hl0]; simp only [List.length_append]; omega
 have L0 := Lib.hid hl0
 have R := Lib.hid (And.intro hwr3 (R2.out.1.trans hk3))
 clear hwr3 hk3 C3 m3 q2 hl0
 go_wp2_with fail
 go_loopw [24] (fun v24 wr => ∃ k : Nat, k ≤ its.length ∧ v24 = .int .i64 k ∧ Wr wr B pw (l0 ++ ((its.take k).map It.plain).flatMap itForm) ∧ Keeps (fun k => k = pw) w wr) (fun v24 _ => its.length - (intOf v24).toNat)
 case atStart => exact ⟨0, by omega, rfl, by simpa using R.out.1, R.out.2⟩
 case round =>
  obtain ⟨k, hk, rfl, hwk, hkp⟩ := hrel
  have hcl : (((its.take k).map It.plain).flatMap itForm).length ≤ 820 * (its.take k).length := its_le (fun x hx => H.out.2.2.2.2.2.2.2.2 x (List.mem_of_mem_take hx)) (fun x hx => (H.out.2.2.1 x (List.mem_of_mem_take hx)).2.2.1)
  have htk : (its.take k).length ≤ 4 := by simp; omega
  have hlen3 : (l0 ++ ((its.take k).map It.plain).flatMap itForm).length ≤ l.length + 4000 := by simp only [List.length_append]; omega
  by_cases hlt : k < its.length
  ·obtain ⟨b, o, c', he, _, _, hcell⟩ := H.out.2.1.at (by omega)
   simp only [Value.slice.injEq, true_and] at he
   obtain ⟨rfl, rfl⟩ := he
   have hx : its[k]? = some its[k] := List.getElem?_eq_getElem hlt
   generalize its[k] = a at hx
   have hmem := List.mem_of_getElem? hx
   have hfine := H.out.2.2.1 a hmem
   obtain ⟨p9, c9, e9, _, _⟩ := hfine.1.len
   obtain ⟨n, t, key, av, es⟩ := a
   simp only at e9
   subst e9
   have hbp : b ≠ pw := H.out.2.2.2.2.2.1 (by omega) b rfl
   have cell : ∀ i u, (It.cells ⟨n, t, key, .slice p9 es.length c9, es⟩)[i]? = some u → wr.cell? ⟨b, o + k * 4 + i, none⟩ = some u := fun i u hu => hkp.cell (hcell k _ hx i u hu) hbp
   have c0 := cell 0 _ rfl
   have c1 := cell 1 _ rfl
   have c2 := cell 2 _ rfl
   have c3 := cell 3 _ rfl
   simp only [Nat.add_zero] at c0
   have hno := H.out.2.2.2.2.2.2.2.1 _ hmem
   have hfw : It.fine wr ⟨n, t, key, .slice p9 es.length c9, es⟩ := by
    refine ⟨?_, fun h0 k hk => Nat.lt_of_lt_of_le (hfine.2.1 h0 k hk) hkp.size, hfine.2.2⟩
    rcases Nat.eq_zero_or_pos es.length with h0 | h0
    ·have h00 := List.eq_nil_of_length_eq_zero h0
     obtain ⟨p3, c3', e3, g1, g2, g3, g4⟩ := hfine.1
     exact ⟨p3, c3', e3, g1, g2, g3, fun ad had => ⟨(g4 ad had).1, fun j x hj => by rw [h00] at hj; cases hj⟩⟩
    ·exact SeesR.keeps hfine.1 hkp (fun b' hb' => hno h0 b' hb')
   have hwl := hwk.lt
   have k3 : Old wr (wr.alloc (.cells #[.int .u64 n, .int .u64 t, .string key, .slice p9 es.length c9] 29)) := (Keeps.refl _ _).alloc _
   have C4 := Lib.hid (witem_any B pw _ ⟨n, t, key, .slice p9 es.length c9, es⟩ _ (hwk.old k3) (by omega) (It.fine.old hfw k3) hno (H.out.2.2.2.2.2.2.2.2 _ hmem))
   unfold It.cells at C4
   have HX := Lib.hid (And.intro hx (hkp.alloc (.cells #[.int .u64 n, .int .u64 t, .string key, .slice p9 es.length c9] 29)))
   clear cell hx k3 hkp hwk hcell hfine hfw hcl htk hmem hno
   go_wp2_with fail
   refine C4.out.mono ?_
   rintro e w5 ⟨rfl, hwr5, hk5⟩
   have R6 := Lib.hid (And.intro hwr5 hk5)
   clear hwr5 hk5 C4
   go_wp2_with fail
   go_roundw
   case rel => exact ⟨k + 1, by omega, by go_num, by rw [List.take_add_one, HX.out.1]; simpa using R6.out.1, HX.out.2.trans R6.out.2⟩
   case measure => simp [intOf]; omega
  ·rw [List.take_of_length_le (by omega)] at hwk hlen3
   have m4 := (hkp.block _ (lt_of_heap H.out.1) hep).trans H.out.1
   have q4 := (blk5 m4).1
   have C5 := Lib.hid (wnum_any B pw _ gs.length wr hwk (by omega) (by omega))
   have R5 := Lib.hid hkp
   clear hwk hkp m4 q3 hcl htk
   go_wp2_with fail
   refine C5.out.mono ?_
   rintro e w6 ⟨rfl, hwr6, hk6⟩
   have hkk := R5.out.trans hk6
   have m6 := (hkk.block _ (lt_of_heap H.out.1) hep).trans H.out.1
   have q6 := (blk5 m6).1
   obtain ⟨l1, hl1⟩ : ∃ l1, l0 ++ (its.map It.plain).flatMap itForm ++ form gs.length = l1 := ⟨_, rfl⟩
   rw [hl1] at hwr6
   have hlen1 : l1.length ≤ l.length + 4010 := by rw [← hl1]; simp only [List.length_append] at hlen3 ⊢; omega
   have L1 := Lib.hid hl1
   have R6 := Lib.hid (And.intro hwr6 hkk)
   clear hwr6 hk6 hkk m6 hl1 C5 q4
   go_wp2_with fail
   obtain ⟨wo, rfl⟩ : ∃ wo : World, wo = wr := ⟨_, rfl⟩
   go_loopw [41] (fun v41 wr => ∃ k : Nat, k ≤ gs.length ∧ v41 = .int .i64 k ∧ Wr wr B pw (l1 ++ (gs.take k).flatMap gapForm) ∧ Keeps (fun k => k = pw) w wr) (fun v41 _ => gs.length - (intOf v41).toNat)
   case atStart => exact ⟨0, by omega, rfl, by simpa using R6.out.1, R6.out.2⟩
   case round =>
    obtain ⟨k, hk, rfl, hwk, hkp⟩ := hrel
    have hcl : ((gs.take k).flatMap gapForm).length ≤ 20 * (gs.take k).length := gaps_le (fun x hx => H.out.2.2.2.2.1 x (List.mem_of_mem_take hx))
    have htk : (gs.take k).length ≤ 16 := by simp; omega
    have hlen4 : (l1 ++ (gs.take k).flatMap gapForm).length ≤ l.length + 5000 := by simp only [List.length_append]; omega
    by_cases hlt : k < gs.length
    ·obtain ⟨b, o, c', he, _, _, hcell⟩ := H.out.2.2.2.1.at (by omega)
     simp only [Value.slice.injEq, true_and] at he
     obtain ⟨rfl, rfl⟩ := he
     have hx : gs[k]? = some gs[k] := List.getElem?_eq_getElem hlt
     generalize gs[k] = a at hx
     have hmem := List.mem_of_getElem? hx
     have hrg := H.out.2.2.2.2.1 a hmem
     obtain ⟨ga, gz⟩ := a
     simp only at hrg
     have hbp : b ≠ pw := H.out.2.2.2.2.2.2.1 (by omega) b rfl
     have cell : ∀ i u, (gapL (ga, gz))[i]? = some u → wr.cell? ⟨b, o + k * 2 + i, none⟩ = some u := fun i u hu => hkp.cell (hcell k _ hx i u hu) hbp
     have c0 := cell 0 _ rfl
     have c1 := cell 1 _ rfl
     simp only [Nat.add_zero] at c0
     have hwl := hwk.lt
     have k3 : Old wr (wr.alloc (.cells #[.int .u64 ga, .int .u64 gz] 121)) := (Keeps.refl _ _).alloc _
     have b3 := heap_alloc_new wr (.cells #[.int .u64 ga, .int .u64 gz] 121)
     have fa : (form ga).length ≤ 10 := form_le10 hrg.1
     have C4 := Lib.hid (wnum_any B pw _ ga _ (hwk.old k3) (by omega) hrg.1)
     have HX := Lib.hid (And.intro hx (And.intro (hkp.alloc (.cells #[.int .u64 ga, .int .u64 gz] 121)) b3))
     have hgz := hrg.2
     clear cell hx k3 hkp hwk hcell hcl htk hmem hrg b3
     go_wp2_with fail
     refine C4.out.mono ?_
     rintro e w7 ⟨rfl, hwr7, hk7⟩
     have m7 := (hk7.block _ (lt_of_heap HX.out.2.2) (by omega)).trans HX.out.2.2
     have g7 := (blk2 m7).1
     have C6 := Lib.hid (wnum_any B pw _ gz w7 hwr7 (by simp only [List.length_append] at hlen4 ⊢; omega) hgz)
     have R7 := Lib.hid hk7
     clear hwr7 hk7 m7 C4
     go_wp2_with fail
     refine C6.out.mono ?_
     rintro e w8 ⟨rfl, hwr8, hk8⟩
     have R8 := Lib.hid (And.intro hwr8 hk8)
     clear hwr8 hk8 C6
     go_wp2_with fail
     go_roundw
     case rel => exact ⟨k + 1, by omega, by go_num, by rw [List.take_add_one, HX.out.1]; simpa [gapForm] using R8.out.1, (HX.out.2.1.trans R7.out).trans R8.out.2⟩
     case measure => simp [intOf]; omega
    ·rw [List.take_of_length_le (by omega)] at hwk hlen4
     have m4 := (hkp.block _ (lt_of_heap H.out.1) hep).trans H.out.1
     have q4 := (blk5 m4).1
     have C5 := Lib.hid (wflag_any B pw _ last wr hwk (by omega))
     have R5' := Lib.hid hkp
     clear hwk hkp m4 q6 hcl htk
     go_wp2_with fail
     refine C5.out.mono ?_
     rintro e w9 ⟨rfl, hwr9, hk9⟩
     have R9 := Lib.hid (And.intro hwr9 (R5'.out.trans hk9))
     clear hwr9 hk9 C5
     go_wp2_with fail
     go_end0
     refine ⟨rfl, ?_, R9.out.2⟩
     have h1 := R9.out.1
     rw [← L1.out, ← L0.out] at h1
     unfold pageForm Pg.plain
     simp only [List.length_map, List.append_assoc] at h1 ⊢
     exact h1
theorem put_page_any (x : Pg) (w : World) (hf : x.fine w) (hok : pgOk x.plain = true) :
  Calls Tryz.prog 32 #[.agg x.cells.toArray] w (Formed w (pageForm x.plain)) := by
 have hmf : ∀ (fn : Fn) (first cap : Array Value) (w : World), (Instr.makeFunc fn first cap).run Tryz.prog w = .ok (.func fn first cap) w := fun _ _ _ _ => rfl
 have M := fun W k => may_page_any x W (Pg.fine.old hf k)
 rw [hok] at M
 have P1 := Lib.hid (fun B pw eb l W => put_page1_any B pw eb l x W)
 have HP := Lib.hid hok
 clear hok
 obtain ⟨fr, en, iv, its, gv, gs, last⟩ := x
 obtain ⟨p1, c1, e1, i1, i2⟩ := hf.1.1.len
 obtain ⟨p2, c2, e2, j1, j2⟩ := hf.1.2.2.len
 simp only at e1 e2
 subst e1 e2
 unfold Pg.cells at M P1 ⊢
 simp only at M P1 ⊢
 generalize hW0 : w.alloc (.cells #[.int .u64 fr, .int .u64 en, .slice p1 its.length c1, .slice p2 gs.length c2, .bool last] 35) = W0
 have k0 : Old w W0 := by rw [← hW0]; exact (Keeps.refl _ _).alloc _
 have hb0 : W0.heap[w.heap.size]? = some (.cells #[.int .u64 fr, .int .u64 en, .slice p1 its.length c1, .slice p2 gs.length c2, .bool last] 35 (0, 0)) := by rw [← hW0]; exact heap_alloc_new _ _
 have g := (blk5 hb0).1
 have C := Lib.hid (M W0 k0)
 have H := Lib.hid (And.intro k0 (And.intro hb0 hf))
 clear M k0 hb0 hf
 go_enter Tryz.func32, Tryz.ntmps32
 go_wp2_with fail
 refine C.out.mono ?_
 rintro e w1 ⟨rfl, hk1⟩
 obtain ⟨k0, hb0, hf⟩ := H.out
 have F := Lib.hid (form_yes_any 78 w.heap.size (pageForm (Pg.plain ⟨fr, en, .slice p1 its.length c1, its, .slice p2 gs.length c2, gs, last⟩)) w1 (fun args W => by simp [go_sem, callFunc, Tryz.func78]; rfl) (fun W pw hO hp hwr => by
  have hx := P1.out w1.heap.size pw w.heap.size [] W hwr (by simp) ((hO.block _ (by have := k0.size; have := hk1.size; have := lt_of_heap hb0; omega) (fun f => f)).trans ((hk1.block _ (lt_of_heap hb0) (fun f => f)).trans hb0))
   (Pg.fine.old hf ((k0.trans hk1).trans hO)) (fun h0 k hk => by have := hf.2.2.2.1 h0 k hk; have := k0.size; have := hk1.size; omega) (fun h0 k hk => by have := hf.2.2.2.2 h0 k hk; have := k0.size; have := hk1.size; omega)
   (fun y hy h0 k hk => by have := (hf.1.2.1 y hy).2.1 h0 k hk; have := k0.size; have := hk1.size; omega) HP.out
  simpa using hx))
 have K := Lib.hid (k0.trans hk1)
 clear k0 hb0 hf hk1
 go_wp2_with fail
 refine F.out.mono ?_
 rintro e w2 ⟨p3, n3, c3, rfl, ho2, hk2⟩
 have R := Lib.hid (And.intro ho2 hk2)
 clear ho2 hk2
 go_wp2_with fail
 go_ret2
 exact ⟨p3, n3, c3, rfl, R.out.1.mono K.out.size, K.out.trans R.out.2⟩
theorem put_page_no_any (x : Pg) (w : World) (hf : x.fine w) (hok : pgOk x.plain = false) :
  Calls Tryz.prog 32 #[.agg x.cells.toArray] w fun e w' => e = .returned (.tuple #[.slice none 0 0, .int .i64 30]) ∧ Old w w' := by
 have hmf : ∀ (fn : Fn) (first cap : Array Value) (w : World), (Instr.makeFunc fn first cap).run Tryz.prog w = .ok (.func fn first cap) w := fun _ _ _ _ => rfl
 have M := fun W k => may_page_any x W (Pg.fine.old hf k)
 rw [hok] at M
 clear hok
 obtain ⟨fr, en, iv, its, gv, gs, last⟩ := x
 obtain ⟨p1, c1, e1, i1, i2⟩ := hf.1.1.len
 obtain ⟨p2, c2, e2, j1, j2⟩ := hf.1.2.2.len
 simp only at e1 e2
 subst e1 e2
 unfold Pg.cells at M ⊢
 simp only at M ⊢
 generalize hW0 : w.alloc (.cells #[.int .u64 fr, .int .u64 en, .slice p1 its.length c1, .slice p2 gs.length c2, .bool last] 35) = W0
 have k0 : Old w W0 := by rw [← hW0]; exact (Keeps.refl _ _).alloc _
 have hb0 : W0.heap[w.heap.size]? = some (.cells #[.int .u64 fr, .int .u64 en, .slice p1 its.length c1, .slice p2 gs.length c2, .bool last] 35 (0, 0)) := by rw [← hW0]; exact heap_alloc_new _ _
 have g := (blk5 hb0).1
 have C := Lib.hid (M W0 k0)
 have H := Lib.hid k0
 clear M k0 hb0 hf
 go_enter Tryz.func32, Tryz.ntmps32
 go_wp2_with fail
 refine C.out.mono ?_
 rintro e w1 ⟨rfl, hk1⟩
 have K := Lib.hid (H.out.trans hk1)
 clear hk1
 go_wp2_with fail
 refine (form_no_any _ _).mono ?_
 rintro e w2 ⟨rfl, rfl⟩
 go_wp2_with fail
 go_ret2
 exact ⟨rfl, K.out⟩
end
section
theorem pItem_inv {l r : List UInt8} {x : PIt} (h : pItem l = some (x, r)) : Fits x.es ∧ x.n ≤ 1099511627776 ∧ x.time ≤ 1099511627776 ∧ (itOk x = true → l = itForm x ++ r) := by
 unfold pItem at h
 cases ha : pNum 1099511627776 l with
 | none => rw [ha] at h; cases h
 | some a =>
  rw [ha] at h
  simp only [Option.bind_some] at h
  cases hb : pNum 1099511627776 a.2 with
  | none => rw [hb] at h; cases h
  | some b =>
   rw [hb] at h
   simp only [Option.bind_some] at h
   cases hc : pEvent b.2 with
   | none => rw [hc] at h; cases h
   | some c =>
    obtain ⟨⟨key, es⟩, r'⟩ := c
    rw [hc] at h
    simp only [Option.map_some, Option.some.injEq, Prod.mk.injEq] at h
    obtain ⟨rfl, rfl⟩ := h
    obtain ⟨e1, l1, _⟩ := pNum_inv ha
    obtain ⟨e2, l2, _⟩ := pNum_inv hb
    obtain ⟨_, _, f, e3⟩ := pEvent_inv hc
    refine ⟨f, l1, l2, fun hok => ?_⟩
    unfold itOk at hok
    simp only [Bool.and_eq_true, decide_eq_true_eq] at hok
    rw [e1, e2, e3 hok.2.2.2]
    simp [itForm]
theorem pItem_fwd {x : PIt} (r : List UInt8) (hok : itOk x = true) (hf : Fits x.es) : pItem (itForm x ++ r) = some (x, r) := by
 unfold itOk at hok
 simp only [Bool.and_eq_true, decide_eq_true_eq] at hok
 unfold pItem itForm
 rw [show form x.n ++ form x.time ++ evForm x.key x.es ++ r = form x.n ++ (form x.time ++ (evForm x.key x.es ++ r)) from by simp, pNum_fwd _ hok.2.1 (by omega)]
 simp only [Option.bind_some]
 rw [pNum_fwd _ hok.2.2.1 (by omega)]
 simp only [Option.bind_some]
 rw [pEvent_fwd r hok.2.2.2 hf]
 rfl
def conOkP (c : PCon) : Bool := conOk ⟨c.name, c.op, c.val, .nilIface, c.set⟩
theorem conOk_plain (x : Con) : conOk x = conOkP x.plain := rfl
def okP (l : List PCon) : Bool := decide (l.length ≤ 6) && l.all conOkP
theorem predOk_plain (l : List Con) : predOk l = okP (l.map Con.plain) := by
 unfold predOk okP
 rw [List.length_map, List.all_map]
 rfl
def ConG (c : PCon) : Prop := c.name.size ≤ 16 ∧ VFits c.val ∧ ∀ v ∈ c.set, VFits v
theorem vfits_none : VFits noVal := ⟨by simp, by simp⟩
theorem bare_eq {v : Val} (h : bare v = true) : v = noVal := by
 obtain ⟨k, n, s, b⟩ := v
 unfold bare at h
 simp only [Bool.and_eq_true, beq_iff_eq, Bool.not_eq_true'] at h
 obtain ⟨rfl, rfl, hs, rfl⟩ := h
 rw [empty_arr hs]
theorem pCon_inv {l r : List UInt8} {c : PCon} (h : pCon l = some (c, r)) : ConG c ∧ (conOkP c = true → l = conForm c ++ r) := by
 unfold pCon at h
 cases ha : pText 16 l with
 | none => rw [ha] at h; cases h
 | some a =>
  rw [ha] at h
  simp only [Option.bind_some] at h
  cases hb : pNum 9 a.2 with
  | none => rw [hb] at h; cases h
  | some b =>
   rw [hb] at h
   simp only [Option.bind_some] at h
   obtain ⟨e1, l1⟩ := pText_inv (by decide) ha
   obtain ⟨e2, l2, _⟩ := pNum_inv hb
   by_cases o1 : b.1 = 1
   ·rw [if_pos o1] at h
    simp only [Option.some.injEq, Prod.mk.injEq] at h
    obtain ⟨rfl, rfl⟩ := h
    refine ⟨⟨l1, vfits_none, fun v hv => by cases hv⟩, fun _ => ?_⟩
    rw [e1, e2, o1]; simp [conForm]
   ·rw [if_neg o1] at h
    by_cases o9 : b.1 = 9
    ·rw [if_pos o9] at h
     cases hc : pList 6 pVal b.2 with
     | none => rw [hc] at h; cases h
     | some c =>
      rw [hc] at h
      simp only [Option.map_some, Option.some.injEq, Prod.mk.injEq] at h
      obtain ⟨rfl, rfl⟩ := h
      obtain ⟨_, g2, g3⟩ := pList_inv (f := valForm) (ok := fun v => v.ok = true) (good := VFits) (fun l x r h => ⟨(pVal_inv h).1, (pVal_inv h).2.2.2.2⟩) hc
      refine ⟨⟨l1, vfits_none, g2⟩, fun hok => ?_⟩
      have hs := (conOk_parts hok).2.2.2.1 rfl
      rw [e1, e2, o9, g3 hs.2]; simp [conForm]
    ·rw [if_neg o9] at h
     cases hc : pVal b.2 with
     | none => rw [hc] at h; cases h
     | some c =>
      rw [hc] at h
      simp only [Option.map_some, Option.some.injEq, Prod.mk.injEq] at h
      obtain ⟨rfl, rfl⟩ := h
      obtain ⟨g1, _, _, _, g5⟩ := pVal_inv hc
      refine ⟨⟨l1, g1, fun v hv => by cases hv⟩, fun hok => ?_⟩
      have hv := (conOk_parts hok).2.2.2.2 (by simp; omega) (by simp; omega)
      have n1 : ¬ ((b.1 : Int) = 1) := by omega
      have n9 : ¬ ((b.1 : Int) = 9) := by omega
      rw [e1, e2, g5 hv]; simp [conForm, n1, n9]
theorem conOk_bare {x : Con} (h : conOk x = true) : ((x.op = 1 ∨ x.op = 9) → x.val = noVal) ∧ (x.op ≠ 9 → x.set = []) := by
 unfold conOk at h
 simp only [Bool.and_eq_true, decide_eq_true_eq] at h
 obtain ⟨_, h3⟩ := h
 by_cases o1 : x.op = 1
 ·rw [if_pos o1] at h3; simp at h3; exact ⟨fun _ => bare_eq h3.1, fun _ => h3.2⟩
 ·rw [if_neg o1] at h3
  by_cases o2 : 2 ≤ x.op ∧ x.op ≤ 7
  ·rw [if_pos o2] at h3; simp at h3; exact ⟨fun h => by omega, fun _ => h3.2⟩
  ·rw [if_neg o2] at h3
   by_cases o3 : x.op = 8
   ·rw [if_pos o3] at h3; simp at h3; exact ⟨fun h => by omega, fun _ => h3.2.2⟩
   ·rw [if_neg o3] at h3
    by_cases o4 : x.op = 9
    ·rw [if_pos o4] at h3; simp at h3; exact ⟨fun _ => bare_eq h3.1, fun h => absurd o4 h⟩
    ·rw [if_neg o4] at h3; cases h3
theorem pCon_fwd {c : PCon} (r : List UInt8) (hok : conOkP c = true) (hg : ConG c) : pCon (conForm c ++ r) = some (c, r) := by
 obtain ⟨nm, op, val, set⟩ := c
 obtain ⟨h1, h2, h3, h4, h5⟩ := conOk_parts hok
 obtain ⟨b1, b2⟩ := conOk_bare hok
 simp only at h1 h2 h3 h4 h5 b1 b2
 obtain ⟨q, rfl⟩ := Int.eq_ofNat_of_zero_le (show 0 ≤ op by omega)
 unfold pCon conForm
 simp only [Int.toNat_natCast]
 have ht := fun t => pText_fwd (most := 16) (s := nm) t h1 (by decide)
 by_cases o1 : q = 1
 ·obtain rfl := b1 (.inl (by omega))
  obtain rfl := b2 (by omega)
  rw [if_pos (by omega), List.append_nil, List.append_assoc, ht]
  simp only [Option.bind_some]
  rw [pNum_fwd _ (by omega) (by omega)]
  simp [o1]
 ·by_cases o9 : q = 9
  ·obtain rfl := b1 (.inr (by omega))
   obtain ⟨g1, g2⟩ := h4 (by omega)
   rw [if_neg (by omega), if_pos (by omega)]
   rw [show form nm.size ++ nm.toList ++ form q ++ (form set.length ++ set.flatMap valForm) ++ r = form nm.size ++ nm.toList ++ (form q ++ (form set.length ++ set.flatMap valForm ++ r)) from by simp, ht]
   simp only [Option.bind_some]
   rw [pNum_fwd _ (by omega) (by omega)]
   simp only [Option.bind_some]
   rw [if_neg o1, if_pos o9, pList_fwd set g1 (by omega) (fun v hv t => pVal_fwd t (g2 v hv) (hg.2.2 v hv))]
   simp [o9]
  ·obtain rfl := b2 (by omega)
   rw [if_neg (by omega), if_neg (by omega)]
   rw [show form nm.size ++ nm.toList ++ form q ++ valForm val ++ r = form nm.size ++ nm.toList ++ (form q ++ (valForm val ++ r)) from by simp, ht]
   simp only [Option.bind_some]
   rw [pNum_fwd _ (by omega) (by omega)]
   simp only [Option.bind_some]
   rw [if_neg o1, if_neg o9, pVal_fwd r (h5 (by omega) (by omega)) hg.2.1]
   rfl
theorem okP_parts {l : List PCon} (h : okP l = true) : l.length ≤ 6 ∧ ∀ c ∈ l, conOkP c = true := by
 unfold okP at h; simp at h; exact h
theorem pPred_inv {l r : List UInt8} {cs : List PCon} (h : pPred l = some (cs, r)) : (∀ c ∈ cs, ConG c) ∧ (okP cs = true → l = predForm cs ++ r) := by
 obtain ⟨_, g2, g3⟩ := pList_inv (f := conForm) (ok := fun c => conOkP c = true) (good := ConG) (fun l x r h => pCon_inv h) h
 exact ⟨g2, fun hok => by rw [g3 (okP_parts hok).2]; simp [predForm]⟩
theorem pPred_fwd {cs : List PCon} (r : List UInt8) (hok : okP cs = true) (hg : ∀ c ∈ cs, ConG c) : pPred (predForm cs ++ r) = some (cs, r) := by
 obtain ⟨h1, h2⟩ := okP_parts hok
 exact pList_fwd cs h1 (by omega) (fun c hc t => pCon_fwd t (h2 c hc) (hg c hc)) r
theorem pGap_inv {l r : List UInt8} {g : PGap} (h : pGap l = some (g, r)) : (g.1 ≤ 1099511627776 ∧ g.2 ≤ 1099511627776) ∧ l = gapForm g ++ r := by
 obtain ⟨l1, q1, q2⟩ := pGap_cases h
 obtain ⟨e1, h1, _⟩ := pNum_inv q1
 obtain ⟨e2, h2, _⟩ := pNum_inv q2
 exact ⟨⟨h1, h2⟩, by rw [e1, e2]; simp [gapForm]⟩
theorem pGap_fwd {g : PGap} (r : List UInt8) (h1 : g.1 ≤ 1099511627776) (h2 : g.2 ≤ 1099511627776) : pGap (gapForm g ++ r) = some (g, r) := by
 unfold pGap gapForm
 rw [List.append_assoc, pNum_fwd _ h1 (by omega)]
 simp only [Option.bind_some]
 rw [pNum_fwd _ h2 (by omega)]
 rfl
theorem pPage_inv {l r : List UInt8} {x : PPg} (h : pPage l = some (x, r)) : (x.fr ≤ 1099511627777 ∧ x.en ≤ 1099511627777) ∧ (∀ y ∈ x.items, Fits y.es ∧ y.n ≤ 1099511627776 ∧ y.time ≤ 1099511627776) ∧ (∀ g ∈ x.gaps, g.1 ≤ 1099511627776 ∧ g.2 ≤ 1099511627776) ∧ (pgOk x = true → l = pageForm x ++ r) := by
 unfold pPage at h
 cases ha : pNum 1099511627777 l with
 | none => rw [ha] at h; cases h
 | some a =>
  rw [ha] at h
  simp only [Option.bind_some] at h
  cases hb : pNum 1099511627777 a.2 with
  | none => rw [hb] at h; cases h
  | some b =>
   rw [hb] at h
   simp only [Option.bind_some] at h
   cases hc : pList 4 pItem b.2 with
   | none => rw [hc] at h; cases h
   | some c =>
    rw [hc] at h
    simp only [Option.bind_some] at h
    cases hd : pList 16 pGap c.2 with
    | none => rw [hd] at h; cases h
    | some d =>
     rw [hd] at h
     simp only [Option.bind_some] at h
     cases he : pNum 1 d.2 with
     | none => rw [he] at h; cases h
     | some e =>
      rw [he] at h
      simp only [Option.map_some, Option.some.injEq, Prod.mk.injEq] at h
      obtain ⟨rfl, rfl⟩ := h
      obtain ⟨e1, l1, _⟩ := pNum_inv ha
      obtain ⟨e2, l2, _⟩ := pNum_inv hb
      obtain ⟨e5, l5, _⟩ := pNum_inv he
      obtain ⟨_, g2, g3⟩ := pList_inv (f := itForm) (ok := fun y => itOk y = true) (good := fun y => Fits y.es ∧ y.n ≤ 1099511627776 ∧ y.time ≤ 1099511627776) (fun l x r h => ⟨⟨(pItem_inv h).1, (pItem_inv h).2.1, (pItem_inv h).2.2.1⟩, (pItem_inv h).2.2.2⟩) hc
      obtain ⟨_, k2, k3⟩ := pList_inv (f := gapForm) (ok := fun _ => True) (good := fun g => g.1 ≤ 1099511627776 ∧ g.2 ≤ 1099511627776) (fun l x r h => ⟨(pGap_inv h).1, fun _ => (pGap_inv h).2⟩) hd
      refine ⟨⟨l1, l2⟩, g2, k2, fun hok => ?_⟩
      unfold pgOk at hok
      simp only [Bool.and_eq_true] at hok
      have hi := itsOk_mem _ _ _ hok.2.1
      rw [e1, e2, g3 hi, k3 (fun _ _ => trivial), e5]
      have : e.1 = 0 ∨ e.1 = 1 := by omega
      rcases this with h0 | h0 <;> simp [pageForm, h0]
theorem pPage_fwd {x : PPg} (r : List UInt8) (hok : pgOk x = true) (hi : ∀ y ∈ x.items, Fits y.es) (hg : ∀ g ∈ x.gaps, g.1 ≤ 1099511627776 ∧ g.2 ≤ 1099511627776) : pPage (pageForm x ++ r) = some (x, r) := by
 have hok' := hok
 unfold pgOk topOk at hok'
 simp only [Bool.and_eq_true, decide_eq_true_eq] at hok'
 obtain ⟨⟨h1, h2, h3, h4, h5⟩, h6, _⟩ := hok'
 have his := itsOk_mem _ _ _ h6
 unfold pPage pageForm
 rw [show form x.fr ++ form x.en ++ form x.items.length ++ x.items.flatMap itForm ++ form x.gaps.length ++ x.gaps.flatMap gapForm ++ form (if x.last then 1 else 0) ++ r = form x.fr ++ (form x.en ++ (form x.items.length ++ x.items.flatMap itForm ++ (form x.gaps.length ++ x.gaps.flatMap gapForm ++ (form (if x.last then 1 else 0) ++ r)))) from by simp]
 rw [pNum_fwd _ (by omega) (by omega)]
 simp only [Option.bind_some]
 rw [pNum_fwd _ (by omega) (by omega)]
 simp only [Option.bind_some]
 rw [pList_fwd x.items h4 (by omega) (fun y hy t => pItem_fwd t (his y hy) (hi y hy))]
 simp only [Option.bind_some]
 rw [pList_fwd x.gaps h5 (by omega) (fun g hg' t => pGap_fwd t (hg g hg').1 (hg g hg').2)]
 simp only [Option.bind_some]
 rw [pNum_fwd _ (by split <;> decide) (by split <;> decide)]
 obtain ⟨fr, en, items, gaps, last⟩ := x
 cases last <;> rfl
end
end Go.Proofs.YtpjpimahnnekkaaGreat
