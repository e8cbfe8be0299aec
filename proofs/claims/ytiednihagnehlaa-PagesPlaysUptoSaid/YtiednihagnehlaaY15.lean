/- DERIVED. The document's MayPage (layer 7). · DERIVED. The document's PutPage (layer 7). · DERIVED. The document's TakePage (layer 7). -/
import Derived.Test.YtiednihagnehlaaY14
import Derived.Deep.DeepCutAuto
import Derived.BigQuiet
namespace Go.Proofs.Ytiednihagnehlaa
open Go.RowKit

/-- an item clear of all gaps -/
def clearG (gs : List PGap) (x : It) : Bool := gs.all fun g => outG g x
def itsD (gs : List PGap) (en : Nat) : Nat → List It → Bool
 | _, [] => true
 | a, x :: r => itOk x.plain && (decide (a ≤ x.n) && (decide (x.n < en) && (clearG gs x && itsD gs en (x.n + 1) r)))
def gapsD (en : Nat) : Nat → List PGap → Bool
 | _, [] => true
 | a, g :: r => decide (g.1 ≤ g.2) && (decide (a ≤ g.1) && (decide (g.2 < en) && gapsD en (g.2 + 1) r))
theorem itsD_eq (gs : List PGap) (en : Nat) : ∀ (l : List It) (a : Nat), itsD gs en a l = (itsOk en a (l.map It.plain) && l.all (clearG gs))
 | [], _ => rfl
 | x :: r, a => by
  rw [itsD, itsD_eq gs en r, List.map_cons, itsOk, List.all_cons]
  show _ = ((itOk x.plain && (decide (a ≤ x.n) && (decide (x.n < en) && itsOk en (x.n + 1) (r.map It.plain)))) && _)
  cases itOk x.plain <;> cases decide (a ≤ x.n) <;> cases decide (x.n < en) <;> cases clearG gs x <;> cases itsOk en (x.n + 1) (r.map It.plain) <;> rfl
theorem gapsD_eq (en : Nat) (its : List It) : ∀ (l : List PGap) (a : Nat), gapsOk en (its.map It.plain) a l = (gapsD en a l && l.all fun g => its.all (outG g))
 | [], _ => rfl
 | g :: r, a => by
  rw [gapsD, gapsOk, gapsD_eq en its r, all_plain, List.all_cons]
  cases decide (g.1 ≤ g.2) <;> cases decide (a ≤ g.1) <;> cases decide (g.2 < en) <;> cases its.all (outG g) <;> cases gapsD en (g.2 + 1) r <;> rfl
theorem clear_swap (gs : List PGap) (l : List It) : (gs.all fun g => l.all (outG g)) = l.all (clearG gs) := by
 rw [Bool.eq_iff_iff]
 unfold clearG
 simp only [List.all_eq_true]
 exact ⟨fun h x hx g hg => h g hg x hx, fun h g hg x hx => h x hx g hg⟩
theorem pgOk_doc (x : Pg) : pgOk x.plain = (topOk x.plain && (itsD x.gs x.en x.fr x.its && gapsD x.en x.fr x.gs)) := by
 unfold pgOk
 show (_ && (itsOk x.en x.fr (x.its.map It.plain) && gapsOk x.en (x.its.map It.plain) x.fr x.gs)) = _
 rw [itsD_eq, gapsD_eq, clear_swap]
 cases topOk x.plain <;> cases itsOk x.en x.fr (x.its.map It.plain) <;> cases x.its.all (clearG x.gs) <;> cases gapsD x.en x.fr x.gs <;> rfl
theorem clear_no {gs : List PGap} {x : It} {m : Nat} {g : PGap} (hg : gs[m]? = some g) (h : outG g x = false) : clearG gs x = false := by
 unfold clearG
 rw [Bool.eq_false_iff]
 intro e
 have := List.all_eq_true.1 e g (List.mem_of_getElem? hg)
 rw [h] at this
 cases this

set_option maxRecDepth 100000 in
set_option maxHeartbeats 2000000 in
theorem ref_may_page_top (x : Pg) (w : World) (h : x.fine w) (ht : topOk x.plain = false) : Calls Try.prog 58 #[.agg x.cells.toArray] w fun e w' => e = .returned (.bool false) ∧ Old w w' := by
 obtain ⟨fr, en, iv, its, gv, gs, last⟩ := x
 obtain ⟨⟨hi, hif, hg⟩, hgr, ⟨hfr, hen⟩, _⟩ := h
 obtain ⟨p1, c1, e1, i1, i2⟩ := hi.len
 obtain ⟨p2, c2, e2, j1, j2⟩ := hg.len
 simp only at e1 e2 hi hif hg hgr hfr hen i1 i2 j1 j2
 subst e1 e2
 have him : its.length ≤ 9223372036854775807 := by unfold maxLen at i2; omega
 have hgm : gs.length ≤ 9223372036854775807 := by unfold maxLen at j2; omega
 unfold Pg.cells
 simp only
 generalize hW0 : w.alloc (.cells #[.int .u64 fr, .int .u64 en, .slice p1 its.length c1, .slice p2 gs.length c2, .bool last] 41) = W0
 have k0 : Old w W0 := by rw [← hW0]; exact (Keeps.refl _ _).alloc _
 have hb0 : W0.heap[w.heap.size]? = some (.cells #[.int .u64 fr, .int .u64 en, .slice p1 its.length c1, .slice p2 gs.length c2, .bool last] 41 (0, 0)) := by rw [← hW0]; exact heap_alloc_new _ _
 have g0 := (blk5 hb0).1
 unfold topOk Pg.plain at ht
 simp only [List.length_map] at ht
 have H := Lib.hid k0
 clear k0 hb0 hi hif hg hgr
 simp only [Bool.and_eq_false_iff, decide_eq_false_iff_not] at ht
 by_cases a : fr = 0
 ·clear ht
  have a1 : ((fr : Int) == 0) = true := by rw [beq_iff_eq]; omega
  have a2 : decide (fr = 0) = true := by simp; omega
  clear a
  go_enter Try.func58, Try.ntmps58
  go_wp2_with fail
  go_ret
  exact ⟨rfl, H.out⟩
 have a1 : ((fr : Int) == 0) = false := by rw [beq_eq_false_iff_ne]; omega
 have a2 : decide (fr = 0) = false := by simp; omega
 by_cases a' : 1099511627777 < fr
 ·clear ht
  have b1 : decide (1099511627777 < fr) = true := by simp; omega
  have b2 : decide ((1099511627777 : Int) < (fr : Int)) = true := by simp; omega
  go_enter Try.func58, Try.ntmps58
  go_wp2_with fail
  go_ret
  exact ⟨rfl, H.out⟩
 have a3 : decide (1099511627777 < fr) = false := by simp; omega
 have a4 : decide ((1099511627777 : Int) < (fr : Int)) = false := by simp; omega
 by_cases b : en < fr
 ·clear ht
  have b1 : decide (en < fr) = true := by simp; omega
  have b2 : decide ((en : Int) < (fr : Int)) = true := by simp; omega
  go_enter Try.func58, Try.ntmps58
  go_wp2_with fail
  go_ret
  exact ⟨rfl, H.out⟩
 have b1 : decide (en < fr) = false := by simp; omega
 have b2 : decide ((en : Int) < (fr : Int)) = false := by simp; omega
 by_cases c : 1099511627777 < en
 ·clear ht
  have c1 : decide (1099511627777 < en) = true := by simp; omega
  have c2 : decide ((1099511627777 : Int) < (en : Int)) = true := by simp; omega
  go_enter Try.func58, Try.ntmps58
  go_wp2_with fail
  go_ret
  exact ⟨rfl, H.out⟩
 have c1 : decide (1099511627777 < en) = false := by simp; omega
 have c2 : decide ((1099511627777 : Int) < (en : Int)) = false := by simp; omega
 by_cases d : 4 < its.length
 ·clear ht
  have d1 : decide (4 < its.length) = true := by simp; omega
  have d2 : decide ((4 : Int) < (its.length : Int)) = true := by simp; omega
  go_enter Try.func58, Try.ntmps58
  go_wp2_with fail
  go_ret
  exact ⟨rfl, H.out⟩
 have d1 : decide (4 < its.length) = false := by simp; omega
 have d2 : decide ((4 : Int) < (its.length : Int)) = false := by simp; omega
 have e : 16 < gs.length := by omega
 have e1 : decide (16 < gs.length) = true := by simp; omega
 have e2 : decide ((16 : Int) < (gs.length : Int)) = true := by simp; omega
 clear ht
 go_enter Try.func58, Try.ntmps58
 go_wp2_with fail
 go_ret
 exact ⟨rfl, H.out⟩

set_option maxRecDepth 100000 in
set_option maxHeartbeats 8000000 in
theorem ref_may_page_deep (x : Pg) (w : World) (h : x.fine w) (ht : topOk x.plain = true) : Calls Try.prog 58 #[.agg x.cells.toArray] w fun e w' => e = .returned (.bool (itsD x.gs x.en x.fr x.its && gapsD x.en x.fr x.gs)) ∧ Old w w' := by
 obtain ⟨fr, en, iv, its, gv, gs, last⟩ := x
 obtain ⟨⟨hi, hif, hg⟩, hgr, ⟨hfr, hen⟩, _⟩ := h
 obtain ⟨p1, c1, e1, i1, i2⟩ := hi.len
 obtain ⟨p2, c2, e2, j1, j2⟩ := hg.len
 simp only at e1 e2 hi hif hg hgr hfr hen i1 i2 j1 j2
 subst e1 e2
 have him : its.length ≤ 9223372036854775807 := by unfold maxLen at i2; omega
 have hgm : gs.length ≤ 9223372036854775807 := by unfold maxLen at j2; omega
 unfold Pg.cells
 simp only
 generalize hW0 : w.alloc (.cells #[.int .u64 fr, .int .u64 en, .slice p1 its.length c1, .slice p2 gs.length c2, .bool last] 41) = W0
 have k0 : Old w W0 := by rw [← hW0]; exact (Keeps.refl _ _).alloc _
 have hb0 : W0.heap[w.heap.size]? = some (.cells #[.int .u64 fr, .int .u64 en, .slice p1 its.length c1, .slice p2 gs.length c2, .bool last] 41 (0, 0)) := by rw [← hW0]; exact heap_alloc_new _ _
 have g0 := (blk5 hb0).1
 unfold topOk Pg.plain at ht
 simp only [List.length_map, Bool.and_eq_true, decide_eq_true_eq] at ht
 obtain ⟨ha, hb, hc, hd, he⟩ := ht
 have a1 : ((fr : Int) == 0) = false := by rw [beq_eq_false_iff_ne]; omega
 have a2 : decide (fr = 0) = false := by simp; omega
 have a3 : decide (1099511627777 < fr) = false := by simp; omega
 have a4 : decide ((1099511627777 : Int) < (fr : Int)) = false := by simp; omega
 have b1 : decide (en < fr) = false := by simp; omega
 have b2 : decide ((en : Int) < (fr : Int)) = false := by simp; omega
 have c1 : decide (1099511627777 < en) = false := by simp; omega
 have c2 : decide ((1099511627777 : Int) < (en : Int)) = false := by simp; omega
 have d1 : decide (4 < its.length) = false := by simp; omega
 have d2 : decide ((4 : Int) < (its.length : Int)) = false := by simp; omega
 have e1 : decide (16 < gs.length) = false := by simp; omega
 have e2 : decide ((16 : Int) < (gs.length : Int)) = false := by simp; omega
 obtain ⟨G, hG⟩ : ∃ G, gapsD en fr gs = G := ⟨_, rfl⟩
 obtain ⟨res, hres⟩ : ∃ r, (itsD gs en fr its && G) = r := ⟨_, rfl⟩
 rw [hG, hres]
 have HR := Lib.hid (And.intro hres hG)
 have H := Lib.hid (And.intro k0 (And.intro hb0 (And.intro hi (And.intro hif (And.intro hg hgr)))))
 clear k0 hb0 hi hif hg hgr hres hG
 go_enter Try.func58, Try.ntmps58
 go_wp2_with fail
 clear a1 a2 a3 a4 b1 b2 c1 c2 d1 d2 e1 e2
 go_loopw [3, 4, 5] (fun v3 v4 v5 wr => ∃ (k a : Nat), k ≤ its.length ∧ v3 = .int .i64 k ∧ (fr ≤ a ∧ a ≤ 1099511627778 ∧ (k = 0 → a = fr) ∧ ∀ (j : Nat) (x : It), k = j + 1 → its[j]? = some x → a = x.n + 1) ∧ (itsD gs en a (its.drop k) && G) = res ∧ Old W0 wr) (fun v3 _ _ _ => its.length - (intOf v3).toNat)
 case atStart => exact ⟨0, fr, by omega, rfl, ⟨Nat.le_refl _, by omega, fun _ => rfl, fun j x e => by omega⟩, by simpa using HR.out.1, Keeps.refl _ _⟩
 case round =>
  obtain ⟨wo, rfl⟩ : ∃ wo : World, wo = wr := ⟨_, rfl⟩
  obtain ⟨k, a, hk, rfl, hab, hr, hkw⟩ := hrel
  have hbb := (hkw.block _ (lt_of_heap H.out.2.1) (fun f => f)).trans H.out.2.1
  have gg := (blk5 hbb).1
  have hl0 := lt_of_heap hbb
  by_cases hlt : k < its.length
  ·obtain ⟨b0, o0, c0', he0, _, _, hcell⟩ := H.out.2.2.1.at (by omega)
   simp only [Value.slice.injEq, true_and] at he0
   obtain ⟨rfl, rfl⟩ := he0
   have hx : its[k]? = some its[k] := List.getElem?_eq_getElem hlt
   have hdr : its.drop k = its[k] :: its.drop (k + 1) := List.drop_eq_getElem_cons hlt
   generalize its[k] = y at hx hdr
   have hfy := It.fine.old (H.out.2.2.2.1 y (List.mem_of_getElem? hx)) (H.out.1.trans hkw)
   obtain ⟨p9, c9, e9, _, _⟩ := hfy.1.len
   obtain ⟨n, t, key, av, es⟩ := y
   simp only at e9
   subst e9
   have kw := H.out.1.trans hkw
   have cell : ∀ i u, (It.cells ⟨n, t, key, .slice p9 es.length c9, es⟩)[i]? = some u → wo.cell? ⟨b0, o0 + k * 4 + i, none⟩ = some u := fun i u hu => kw.cell (hcell k _ hx i u hu) (fun f => f)
   have q0 := cell 0 _ rfl
   have q1 := cell 1 _ rfl
   have q2 := cell 2 _ rfl
   have q3 := cell 3 _ rfl
   simp only [Nat.add_zero] at q0
   rw [hdr, itsD] at hr
   have C := Lib.hid (ref_may_item_any ⟨n, t, key, .slice p9 es.length c9, es⟩ _ hfy)
   unfold It.cells at C
   have hn64 := hfy.2.2.2.1
   simp only at hn64
   obtain ⟨ok, hok⟩ : ∃ b, itOk (It.plain ⟨n, t, key, .slice p9 es.length c9, es⟩) = b := ⟨_, rfl⟩
   rw [hok] at C hr
   obtain ⟨cl, hcl⟩ : ∃ b, clearG gs ⟨n, t, key, .slice p9 es.length c9, es⟩ = b := ⟨_, rfl⟩
   rw [hcl] at hr
   have hr' : ((ok && (decide (a ≤ n) && (decide (n < en) && (cl && itsD gs en (n + 1) (its.drop (k + 1)))))) && G) = res := hr
   have HX := Lib.hid (And.intro hr' (And.intro hcl (And.intro hbb (And.intro hkw (And.intro hcell hx)))))
   have HP := Lib.hid hab
   have HXX := Lib.hid hx
   clear cell hdr hfy kw hr hkw hcell hr' hbb hok hcl hab hx
   go_upto_region 7 with fail
   go_cut [86] from 53 to 86 (fun v86 wc => ∃ wx, wx = wc ∧ Old wo wx ∧ ∃ b, v86 = .bool b ∧ (b = true → res = false) ∧ (b = false → (cl && itsD gs en (n + 1) (its.drop (k + 1)) && G) = res ∧ fr ≤ n ∧ n < en))
   case first =>
    cases ok
    ·have er : res = false := by rw [← HX.out.1]; rfl
     have ER := Lib.hid er
     clear er
     go_wp2_with fail
     refine C.out.mono ?_
     rintro e w1 ⟨rfl, hk1⟩
     have g4 := (blk5 ((hk1.block _ (lt_of_heap HX.out.2.2.1) (fun f => f)).trans HX.out.2.2.1)).1
     have K := Lib.hid hk1
     clear hk1 gg
     go_wp2_with fail
     go_meet
     case rel => exact ⟨_, rfl, K.out, true, rfl, fun _ => ER.out, fun h => (by cases h)⟩
    by_cases h1 : fr ≤ n
    case neg =>
     have u1 : decide (n < fr) = true := by simp; omega
     have u1' : decide ((n : Int) < (fr : Int)) = true := by simp; omega
     have er : res = false := by rw [← HX.out.1]; simp; intro h; have := HP.out.1; omega
     have ER := Lib.hid er
     clear er
     go_wp2_with fail
     refine C.out.mono ?_
     rintro e w1 ⟨rfl, hk1⟩
     have g4 := (blk5 ((hk1.block _ (lt_of_heap HX.out.2.2.1) (fun f => f)).trans HX.out.2.2.1)).1
     have K := Lib.hid hk1
     clear hk1 gg
     go_wp2_with fail
     go_meet
     case rel => exact ⟨_, rfl, K.out, true, rfl, fun _ => ER.out, fun h => (by cases h)⟩
    have u1 : decide (n < fr) = false := by simp; omega
    have u1' : decide ((n : Int) < (fr : Int)) = false := by simp; omega
    by_cases h2 : n < en
    case neg =>
     have u2 : decide (en ≤ n) = true := by simp; omega
     have u2' : decide ((en : Int) ≤ (n : Int)) = true := by simp; omega
     have er : res = false := by rw [← HX.out.1]; simp [h2]
     have ER := Lib.hid er
     clear er
     go_wp2_with fail
     refine C.out.mono ?_
     rintro e w1 ⟨rfl, hk1⟩
     have g4 := (blk5 ((hk1.block _ (lt_of_heap HX.out.2.2.1) (fun f => f)).trans HX.out.2.2.1)).1
     have K := Lib.hid hk1
     clear hk1 gg
     go_wp2_with fail
     go_meet
     case rel => exact ⟨_, rfl, K.out, true, rfl, fun _ => ER.out, fun h => (by cases h)⟩
    have u2 : decide (en ≤ n) = false := by simp; omega
    have u2' : decide ((en : Int) ≤ (n : Int)) = false := by simp; omega
    cases k with
    | zero =>
     simp only [Nat.zero_mul, Nat.add_zero] at q0 q1 q2 q3
     have h0 : a ≤ n := by have := HP.out.2.2.1 rfl; omega
     have E := Lib.hid (show ((cl && itsD gs en (n + 1) (its.drop (0 + 1))) && G) = res from by rw [← HX.out.1]; simp [h0, h2])
     go_wp2_with fail
     refine C.out.mono ?_
     rintro e w1 ⟨rfl, hk1⟩
     have g4 := (blk5 ((hk1.block _ (lt_of_heap HX.out.2.2.1) (fun f => f)).trans HX.out.2.2.1)).1
     have K := Lib.hid hk1
     clear hk1 gg
     go_wp2_with fail
     go_meet
     case rel => exact ⟨_, rfl, K.out, false, rfl, fun h => (by cases h), fun _ => ⟨E.out, h1, h2⟩⟩
    | succ j =>
     have hjl : j < its.length := by omega
     obtain ⟨x', hx'⟩ : ∃ x, its[j]? = some x := ⟨_, List.getElem?_eq_getElem hjl⟩
     have hax := HP.out.2.2.2 j x' rfl hx'
     have pv0 := (H.out.1.trans HX.out.2.2.2.1).cell (HX.out.2.2.2.2.1 j x' hx' 0 _ rfl) (fun f => f)
     simp only [Nat.add_zero] at pv0
     obtain ⟨n', hn'⟩ : ∃ m, x'.n = m := ⟨_, rfl⟩
     rw [hn'] at hax pv0
     have j1 : (0 : Int) ≤ (j : Int) := by omega
     have j2 : (j : Int) < (its.length : Int) := by omega
     have j3 : IntKind.i64.wrap ((j : Int) + 1 - 1) = (j : Int) := by rw [IntKind.wrap_i64]; omega
     have j4 : decide ((0 : Int) < (j : Int) + 1) = true := by rw [decide_eq_true_eq]; omega
     clear hx' hn'
     by_cases h0 : a ≤ n
     ·have u3 : decide (n ≤ n') = false := by simp; omega
      have u3' : decide ((n : Int) ≤ (n' : Int)) = false := by simp; omega
      have E := Lib.hid (show ((cl && itsD gs en (n + 1) (its.drop (j + 1 + 1))) && G) = res from by rw [← HX.out.1]; simp [h0, h2])
      go_wp2_with fail
      refine C.out.mono ?_
      rintro e w1 ⟨rfl, hk1⟩
      have g4 := (blk5 ((hk1.block _ (lt_of_heap HX.out.2.2.1) (fun f => f)).trans HX.out.2.2.1)).1
      have pv1 := hk1.cell pv0 (fun f => f)
      have K := Lib.hid hk1
      clear hk1 gg
      go_wp2_with fail
      go_meet
      case rel => exact ⟨_, rfl, K.out, false, rfl, fun h => (by cases h), fun _ => ⟨E.out, h1, h2⟩⟩
     ·have u3 : decide (n ≤ n') = true := by simp; omega
      have u3' : decide ((n : Int) ≤ (n' : Int)) = true := by simp; omega
      have er : res = false := by rw [← HX.out.1]; simp [h0]
      have ER := Lib.hid er
      clear er
      go_wp2_with fail
      refine C.out.mono ?_
      rintro e w1 ⟨rfl, hk1⟩
      have g4 := (blk5 ((hk1.block _ (lt_of_heap HX.out.2.2.1) (fun f => f)).trans HX.out.2.2.1)).1
      have pv1 := hk1.cell pv0 (fun f => f)
      have K := Lib.hid hk1
      clear hk1 gg
      go_wp2_with fail
      go_meet
      case rel => exact ⟨_, rfl, K.out, true, rfl, fun _ => ER.out, fun h => (by cases h)⟩
   case rest =>
    obtain ⟨wx, rfl, hkc, bb, rfl, hbt, hbf⟩ := hcut
    cases bb
    case true =>
     have er := hbt rfl
     have g4 := (blk5 ((hkc.block _ (lt_of_heap HX.out.2.2.1) (fun f => f)).trans HX.out.2.2.1)).1
     have K := Lib.hid (H.out.1.trans (HX.out.2.2.2.1.trans hkc))
     clear HR hbt hbf hkc gg
     subst er
     go_wp2_with fail
     go_ret
     exact ⟨rfl, K.out⟩
    obtain ⟨hE, hfn, hne⟩ := hbf rfl
    clear hbt hbf
    have hob := (hkc.block _ (lt_of_heap HX.out.2.2.1) (fun f => f)).trans HX.out.2.2.1
    have HC := Lib.hid (And.intro hkc (And.intro hE (And.intro hob (And.intro HX.out.2.1 HX.out.2.2.2.1))))
    clear hkc hE gg q0 q1 q2 q3 C HX HP hob
    go_wp2_with fail
    go_loopw [5] (fun v5 wq => ∃ m : Nat, m ≤ gs.length ∧ v5 = .int .i64 m ∧ (gs.take m).all (fun g => outG g ⟨n, t, key, .slice p9 es.length c9, es⟩) = true ∧ Old wx wq) (fun v5 _ => gs.length - (intOf v5).toNat)
    case atStart => exact ⟨0, by omega, rfl, by simp, Keeps.refl _ _⟩
    case round =>
     obtain ⟨m, hm, rfl, htk, hkq⟩ := hrel
     have gg := (blk5 ((hkq.block _ (lt_of_heap HC.out.2.2.1) (fun f => f)).trans HC.out.2.2.1)).1
     by_cases hlt2 : m < gs.length
     ·obtain ⟨b1, o1, c1', he1, _, _, hcl1⟩ := H.out.2.2.2.2.1.at (by omega)
      simp only [Value.slice.injEq, true_and] at he1
      obtain ⟨rfl, rfl⟩ := he1
      obtain ⟨⟨ga, gz⟩, hg⟩ : ∃ g, gs[m]? = some g := ⟨_, List.getElem?_eq_getElem hlt2⟩
      have r0 := (H.out.1.trans (HC.out.2.2.2.2.trans (HC.out.1.trans hkq))).cell (hcl1 m _ hg 0 _ rfl) (fun f => f)
      have r1 := (H.out.1.trans (HC.out.2.2.2.2.trans (HC.out.1.trans hkq))).cell (hcl1 m _ hg 1 _ rfl) (fun f => f)
      simp only [Nat.add_zero] at r0
      have HG := Lib.hid (And.intro hg (And.intro htk hkq))
      clear hg htk hkq hcl1
      by_cases h1 : ga ≤ n
      ·have u1 : decide (ga ≤ n) = true := by simp; omega
       have u1' : decide ((ga : Int) ≤ (n : Int)) = true := by simp; omega
       by_cases h2 : n ≤ gz
       ·have u2 : decide (n ≤ gz) = true := by simp; omega
        have u2' : decide ((n : Int) ≤ (gz : Int)) = true := by simp; omega
        have ec : cl = false := by rw [← HC.out.2.2.2.1]; exact clear_no HG.out.1 (by simp [outG, h1, h2])
        have er : res = false := by rw [← HC.out.2.1, ec]; rfl
        have K := Lib.hid (H.out.1.trans (HC.out.2.2.2.2.trans (HC.out.1.trans HG.out.2.2)))
        clear HR ec
        subst er
        go_wp2_with fail
        go_ret
        exact ⟨rfl, K.out⟩
       ·have u2 : decide (n ≤ gz) = false := by simp; omega
        have u2' : decide ((n : Int) ≤ (gz : Int)) = false := by simp; omega
        have eo : outG (ga, gz) ⟨n, t, key, .slice p9 es.length c9, es⟩ = true := by simp [outG, h1, h2]
        have EO := Lib.hid eo
        clear eo
        go_wp2_with fail
        go_roundw
        case rel => exact ⟨m + 1, by omega, by go_num, by rw [all_take_succ HG.out.1, HG.out.2.1, EO.out]; rfl, HG.out.2.2⟩
        case measure => simp [intOf]; omega
      ·have u1 : decide (ga ≤ n) = false := by simp; omega
       have u1' : decide ((ga : Int) ≤ (n : Int)) = false := by simp; omega
       have eo : outG (ga, gz) ⟨n, t, key, .slice p9 es.length c9, es⟩ = true := by simp [outG, h1]
       have EO := Lib.hid eo
       clear eo
       go_wp2_with fail
       go_roundw
       case rel => exact ⟨m + 1, by omega, by go_num, by rw [all_take_succ HG.out.1, HG.out.2.1, EO.out]; rfl, HG.out.2.2⟩
       case measure => simp [intOf]; omega
     ·have ec : cl = true := by
       rw [← HC.out.2.2.2.1]
       rw [List.take_of_length_le (by omega)] at htk
       exact htk
      have er : (itsD gs en (n + 1) (its.drop (k + 1)) && G) = res := by rw [← HC.out.2.1, ec]; rfl
      have K := Lib.hid (And.intro er (HC.out.2.2.2.2.trans (HC.out.1.trans hkq)))
      clear htk hkq ec er
      go_wp2_with fail
      go_roundw
      case rel => exact ⟨k + 1, n + 1, by omega, by go_num, ⟨by omega, by omega, fun h => by omega, fun j x e hx => by obtain rfl : k = j := (by omega); rw [HXX.out] at hx; cases hx; rfl⟩, K.out.1, K.out.2⟩
      case measure => simp [intOf]; omega
  ·have er : G = res := by rw [← hr, List.drop_of_length_le (by omega)]; rfl
   have HG := Lib.hid (HR.out.2.trans er)
   have HK := Lib.hid hkw
   clear hr hkw hbb HR er hab
   go_wp2_with fail
   go_loopw [6, 7] (fun v6 _ wr => ∃ (k a : Nat), k ≤ gs.length ∧ v6 = .int .i64 k ∧ (fr ≤ a ∧ (k = 0 → a = fr) ∧ ∀ (j : Nat) (g : PGap), k = j + 1 → gs[j]? = some g → a = g.2 + 1) ∧ gapsD en a (gs.drop k) = res ∧ Old W0 wr) (fun v6 _ _ => gs.length - (intOf v6).toNat)
   case atStart => exact ⟨0, fr, by omega, rfl, ⟨Nat.le_refl _, fun _ => rfl, fun j x e => by omega⟩, by simpa using HG.out, HK.out⟩
   case round =>
    obtain ⟨k, a, hk, rfl, hab, hr, hkw⟩ := hrel
    have hbb := (hkw.block _ (lt_of_heap H.out.2.1) (fun f => f)).trans H.out.2.1
    have gg := (blk5 hbb).1
    have hl0 := lt_of_heap hbb
    by_cases hlt : k < gs.length
    ·obtain ⟨b0, o0, c0', he0, _, _, hcell⟩ := H.out.2.2.2.2.1.at (by omega)
     simp only [Value.slice.injEq, true_and] at he0
     obtain ⟨rfl, rfl⟩ := he0
     have hx : gs[k]? = some gs[k] := List.getElem?_eq_getElem hlt
     have hdr : gs.drop k = gs[k] :: gs.drop (k + 1) := List.drop_eq_getElem_cons hlt
     have hrg := H.out.2.2.2.2.2 gs[k] (List.getElem_mem hlt)
     generalize gs[k] = y at hx hdr hrg
     obtain ⟨ga, gz⟩ := y
     simp only at hrg
     have kw := H.out.1.trans hkw
     have q0 := kw.cell (hcell k _ hx 0 _ rfl) (fun f => f)
     have q1 := kw.cell (hcell k _ hx 1 _ rfl) (fun f => f)
     simp only [Nat.add_zero] at q0
     rw [hdr, gapsD] at hr
     obtain ⟨Wz, hWz⟩ : ∃ Wz, wr.alloc (.cells #[.int .u64 0, .int .u64 0] 116) = Wz := ⟨_, rfl⟩
     have kz : Old wr Wz := by rw [← hWz]; exact (Keeps.refl _ _).alloc _
     have bz : Wz.heap[wr.heap.size]? = some (.cells #[.int .u64 0, .int .u64 0] 116 (0, 0)) := by rw [← hWz]; exact heap_alloc_new _ _
     have gz' := blk2 bz
     obtain ⟨W1, hW1⟩ : ∃ W1, (Wz.setCell ⟨wr.heap.size, 0, none⟩ (.int .u64 ga)).setCell ⟨wr.heap.size, 1, none⟩ (.int .u64 gz) = W1 := ⟨_, rfl⟩
     have k1 : Old wr W1 := by rw [← hW1]; exact kz.then (keep2 _ wr.heap.size) (fun i hi e => by omega)
     have bg : W1.heap[wr.heap.size]? = some (.cells #[.int .u64 ga, .int .u64 gz] 116 (0, 0)) := by
      rw [← hW1]
      have h0 := heap_setCell_same Wz wr.heap.size 0 _ _ (.int .u64 ga) bz
      have h1 := heap_setCell_same _ wr.heap.size 1 _ _ (.int .u64 gz) h0
      simpa using h1
     have bp := (k1.block _ hl0 (fun f => f)).trans hbb
     have y0 := OldOf.cell (blk2 bg).1.1
     have y1 := OldOf.cell (blk2 bg).1.2
     have z0 := OldOf.cell (blk5 bp).1.1
     have z1 := OldOf.cell (blk5 bp).1.2.1
     have z3 := OldOf.cell (blk5 bp).1.2.2.2.1
     have HX := Lib.hid (And.intro hr (And.intro (hkw.trans k1) (And.intro hcell hx)))
     have HP := Lib.hid hab
     have HW1 := Lib.hid hW1
     clear hdr kw hr hkw hcell hbb hab hx kz bz k1 bg bp hW1
     go_upto_region 18 with fail
     try rw [HW1.out]
     clear gg gz' q0 q1 hWz
     by_cases h1 : ga ≤ gz
     case neg =>
      have u1 : decide (gz < ga) = true := by simp; omega
      have u1' : decide ((gz : Int) < (ga : Int)) = true := by simp; omega
      have er : res = false := by rw [← HX.out.1]; simp [h1]
      clear HG
      subst er
      go_wp2_with fail
      refine wp_region_quiet_old (by kernel_rfl) (by kernel_rfl) ?_
      repeat (go_big_quiet_step ((fail)))
      refine wpQuiet_nil ?_
      intro _ hpq
      obtain ⟨pq, hpq'⟩ := hpq
      subst hpq'
      go_wp2_with fail
      go_ret
      exact ⟨rfl, H.out.1.trans (HX.out.2.1.trans pq.old)⟩
     have u1 : decide (gz < ga) = false := by simp; omega
     have u1' : decide ((gz : Int) < (ga : Int)) = false := by simp; omega
     by_cases h2 : fr ≤ ga
     case neg =>
      have u2 : decide (ga < fr) = true := by simp; omega
      have u2' : decide ((ga : Int) < (fr : Int)) = true := by simp; omega
      have er : res = false := by rw [← HX.out.1]; simp; intro _ h; have := HP.out.1; omega
      clear HG
      subst er
      go_wp2_with fail
      refine wp_region_quiet_old (by kernel_rfl) (by kernel_rfl) ?_
      repeat (go_big_quiet_step ((fail)))
      refine wpQuiet_nil ?_
      intro _ hpq
      obtain ⟨pq, hpq'⟩ := hpq
      subst hpq'
      go_wp2_with fail
      go_ret
      exact ⟨rfl, H.out.1.trans (HX.out.2.1.trans pq.old)⟩
     have u2 : decide (ga < fr) = false := by simp; omega
     have u2' : decide ((ga : Int) < (fr : Int)) = false := by simp; omega
     by_cases h3 : gz < en
     case neg =>
      have u3 : decide (en ≤ gz) = true := by simp; omega
      have u3' : decide ((en : Int) ≤ (gz : Int)) = true := by simp; omega
      have er : res = false := by rw [← HX.out.1]; simp [h3]
      clear HG
      subst er
      go_wp2_with fail
      refine wp_region_quiet_old (by kernel_rfl) (by kernel_rfl) ?_
      repeat (go_big_quiet_step ((fail)))
      refine wpQuiet_nil ?_
      intro _ hpq
      obtain ⟨pq, hpq'⟩ := hpq
      subst hpq'
      go_wp2_with fail
      go_ret
      exact ⟨rfl, H.out.1.trans (HX.out.2.1.trans pq.old)⟩
     have u3 : decide (en ≤ gz) = false := by simp; omega
     have u3' : decide ((en : Int) ≤ (gz : Int)) = false := by simp; omega
     cases k with
     | zero =>
      have h0 : a ≤ ga := by have := HP.out.2.1 rfl; omega
      try simp only at HX
      have E := Lib.hid (show gapsD en (gz + 1) (gs.drop (0 + 1)) = res from by rw [← HX.out.1]; simp [h0, h1, h3])
      go_wp2_with fail
      refine wp_region_quiet_old (by kernel_rfl) (by kernel_rfl) ?_
      repeat (go_big_quiet_step ((fail)))
      refine wpQuiet_nil ?_
      intro _ hpq
      obtain ⟨pq, hpq'⟩ := hpq
      subst hpq'
      go_wp2_with fail
      go_roundw
      case rel => exact ⟨0 + 1, gz + 1, by omega, by go_num, ⟨by omega, fun h => by omega, fun j' x e hx => by obtain rfl : 0 = j' := (by omega); rw [HX.out.2.2.2] at hx; cases hx; rfl⟩, E.out, HX.out.2.1.trans pq.old⟩
      case measure => simp [intOf]; omega
     | succ j =>
      have hjl : j < gs.length := by omega
      obtain ⟨⟨pa, pz⟩, hx'⟩ : ∃ x, gs[j]? = some x := ⟨_, List.getElem?_eq_getElem hjl⟩
      have hax := HP.out.2.2 j _ rfl hx'
      simp only at hax
      have z9 := OldOf.cell ((H.out.1.trans HX.out.2.1).cell (HX.out.2.2.1 j _ hx' 1 _ rfl) (fun f => f))
      have j1 : (0 : Int) ≤ (j : Int) := by omega
      have j2 : (j : Int) < (gs.length : Int) := by omega
      have j3 : IntKind.i64.wrap ((j : Int) + 1 - 1) = (j : Int) := by rw [IntKind.wrap_i64]; omega
      have j4 : decide ((0 : Int) < (j : Int) + 1) = true := by rw [decide_eq_true_eq]; omega
      clear hx'
      by_cases h0 : a ≤ ga
      ·have u4 : decide (ga ≤ pz) = false := by simp; omega
       have u4' : decide ((ga : Int) ≤ (pz : Int)) = false := by simp; omega
       have E := Lib.hid (show gapsD en (gz + 1) (gs.drop ((j + 1) + 1)) = res from by rw [← HX.out.1]; simp [h0, h1, h3])
       go_wp2_with fail
       refine wp_region_quiet_old (by kernel_rfl) (by kernel_rfl) ?_
       repeat (go_big_quiet_step ((fail)))
       refine wpQuiet_nil ?_
       intro _ hpq
       obtain ⟨pq, hpq'⟩ := hpq
       subst hpq'
       go_wp2_with fail
       go_roundw
       case rel => exact ⟨(j + 1) + 1, gz + 1, by omega, by go_num, ⟨by omega, fun h => by omega, fun j' x e hx => by obtain rfl : (j + 1) = j' := (by omega); rw [HX.out.2.2.2] at hx; cases hx; rfl⟩, E.out, HX.out.2.1.trans pq.old⟩
       case measure => simp [intOf]; omega
      ·have u4 : decide (ga ≤ pz) = true := by simp; omega
       have u4' : decide ((ga : Int) ≤ (pz : Int)) = true := by simp; omega
       have er : res = false := by rw [← HX.out.1]; simp [h0]
       clear HG
       subst er
       go_wp2_with fail
       refine wp_region_quiet_old (by kernel_rfl) (by kernel_rfl) ?_
       repeat (go_big_quiet_step ((fail)))
       refine wpQuiet_nil ?_
       intro _ hpq
       obtain ⟨pq, hpq'⟩ := hpq
       subst hpq'
       go_wp2_with fail
       go_ret
       exact ⟨rfl, H.out.1.trans (HX.out.2.1.trans pq.old)⟩
    ·have er : res = true := by rw [← hr, List.drop_of_length_le (by omega)]; rfl
     have K := Lib.hid (H.out.1.trans hkw)
     clear hr hkw hbb HG hab
     subst er
     go_wp2_with fail
     go_ret
     exact ⟨rfl, K.out⟩
theorem ref_may_page_any (x : Pg) (w : World) (h : x.fine w) : Calls Try.prog 58 #[.agg x.cells.toArray] w fun e w' => e = .returned (.bool (pgOk x.plain)) ∧ Old w w' := by
 rw [pgOk_doc]
 cases ht : topOk x.plain
 ·exact ref_may_page_top x w h ht
 ·exact ref_may_page_deep x w h ht
end Go.Proofs.Ytiednihagnehlaa

namespace Go.Proofs.Ytiednihagnehlaa
open Go.RowKit
theorem K8.to_old' {B : Nat} {a b : World} (hB : a.heap.size ≤ B) (h : K8 B a b) : Old a b := ⟨h.os, h.tape, h.output, h.size, fun k hk _ => Keeps.block h k hk (fun u => by have := u.1; omega)⟩

end Go.Proofs.Ytiednihagnehlaa

namespace Go.Proofs.Ytiednihagnehlaa
open Go.RowKit

def pgEnd (fr en : Nat) (c : List PIt) (gs : List PGap) (l : List UInt8) : Option (PPg × List UInt8) := (pNum 1 l).map fun f => (⟨fr, en, c, gs, f.1 == 1⟩, f.2)
def pgTail (fr en : Nat) (c : List PIt) (l : List UInt8) : Option (PPg × List UInt8) := (pNum 16 l).bind fun x => (pMany pGap x.1 [] x.2).bind fun d => pgEnd fr en c d.1 d.2
theorem pPage_eq (l : List UInt8) : pPage l = (pNum 1099511627777 l).bind fun a => (pNum 1099511627777 a.2).bind fun b => (pNum 4 b.2).bind fun x => (pMany pItem x.1 [] x.2).bind fun c => pgTail a.1 b.1 c.1 c.2 := by
 unfold pPage pList pgTail pgEnd
 congr 1; funext a; congr 1; funext b
 cases pNum 4 b.2 with
 | none => rfl
 | some x =>
  simp only [Option.bind_some]
  congr 1; funext c
  cases pNum 16 c.2 with
  | none => rfl
  | some y => rfl
theorem qsplit {β : Type} (q : Option (Nat × List UInt8)) (F : Nat → List UInt8 → Option β) : q.bind (fun x => F x.1 x.2) = (q.map (·.2)).bind (F (q.elim 0 (·.1))) := by cases q <;> rfl
theorem q_le {st : Option (List UInt8)} {most : Nat} : (st.bind (pNum most)).elim 0 (·.1) ≤ most := by
 cases st with
 | none => exact Nat.zero_le _
 | some l =>
  simp only [Option.bind_some]
  cases hp : pNum most l with
  | none => exact Nat.zero_le _
  | some x => exact (pNum_inv (n := x.1) (r := x.2) hp).2.1
theorem TakUG.no {L : List UInt8} {w w' : World} (h : takeG L = none) (k : Old w w') : TakUG L w (.returned (.tuple #[.agg #[.int .u64 0, .int .u64 0, .slice none 0 0, .slice none 0 0, .bool false], .int .i64 5])) w' :=
 ⟨0, 0, none, 0, 0, [], none, 0, 0, [], false, 5, rfl, k, ⟨⟨SeesR.nil _, fun _ h => (by cases h), SeesR.nil _⟩, fun _ h => (by cases h), ⟨by decide, by decide⟩, fun h => (by simp at h), fun h => (by simp at h)⟩, Or.inr ⟨h, rfl, rfl, rfl, rfl, rfl, rfl, rfl, rfl⟩⟩

end Go.Proofs.Ytiednihagnehlaa
