/- DERIVED. The document's sameness of predicates, items and pages. · DERIVED. codec.MayPage, whole. -/
import Derived.Test.YtiednihagnehlaaY07
import Derived.Test.YtiednihagnehlaaY08
namespace Go.Proofs.Ytiednihagnehlaa
open Go.RowKit

set_option maxRecDepth 100000 in
set_option maxHeartbeats 2000000 in
theorem ref_cmp_pred_any (v v' : Value) (l m : List Con) (w : World) (h : SeesR w 7 Con.cells v l) (h' : SeesR w 7 Con.cells v' m) (hf : ∀ x ∈ l, SeesV w x.sv x.set) (hf' : ∀ x ∈ m, SeesV w x.sv x.set) :
  Calls Try.prog 60 #[v, v'] w fun e w' => e = .returned (.int .i64 (ordP (l.map Con.plain) (m.map Con.plain))) ∧ Old w w' := by
 obtain ⟨p, c, rfl, hb1, hb2⟩ := h.len
 obtain ⟨p', c', rfl, hb3, hb4⟩ := h'.len
 have hmm : l.length ≤ 9223372036854775807 := by unfold maxLen at hb2; omega
 have hmm' : m.length ≤ 9223372036854775807 := by unfold maxLen at hb4; omega
 have H := Lib.hid (And.intro h (And.intro h' (And.intro hf hf')))
 clear hb1 hb2 hb3 hb4 h h' hf hf'
 unfold ordP
 go_enter Try.func60, Try.ntmps60
 go_wp2_with fail
 go_loopw [5] (fun v5 wr => ∃ i : Nat, i ≤ l.length ∧ i ≤ m.length ∧ v5 = .int .i64 i ∧ ordL ordC (l.map Con.plain) (m.map Con.plain) = ordL ordC ((l.map Con.plain).drop i) ((m.map Con.plain).drop i) ∧ Old w wr) (fun v5 _ => l.length - (intOf v5).toNat)
 case atStart => exact ⟨0, by omega, by omega, rfl, rfl, Keeps.refl _ _⟩
 case round =>
  obtain ⟨i, hi, hi', rfl, hr, hk⟩ := hrel
  have HR := Lib.hid hr
  have KW := Lib.hid hk
  clear hr hk
  by_cases hlt : i < l.length ∧ i < m.length
  ·obtain ⟨hlt, hlt'⟩ := hlt
   obtain ⟨b, o, cc, he, _, _, hc⟩ := H.out.1.at (by omega)
   obtain ⟨b', o', cc', he', _, _, hc'⟩ := H.out.2.1.at (by omega)
   simp only [Value.slice.injEq, true_and] at he he'
   obtain ⟨rfl, rfl⟩ := he
   obtain ⟨rfl, rfl⟩ := he'
   obtain ⟨x, hx⟩ : ∃ x, l[i]? = some x := ⟨_, List.getElem?_eq_getElem hlt⟩
   obtain ⟨y, hy⟩ : ∃ y, m[i]? = some y := ⟨_, List.getElem?_eq_getElem hlt'⟩
   have hst := ordL_step (f := ordC) (l := l.map Con.plain) (m := m.map Con.plain) (i := i) (x := x.plain) (y := y.plain) (by simp [hx]) (by simp [hy])
   have cx := fun j u (hu : x.cells[j]? = some u) => OldOf.cell (KW.out.cell (hc i x hx j u hu) (fun f => f))
   have cy := fun j u (hu : y.cells[j]? = some u) => OldOf.cell (KW.out.cell (hc' i y hy j u hu) (fun f => f))
   have x0 := cx 0 _ rfl
   have x1 := cx 1 _ rfl
   have x2 := cx 2 _ rfl
   have x3 := cx 3 _ rfl
   have x4 := cx 4 _ rfl
   have x5 := cx 5 _ rfl
   have x6 := cx 6 _ rfl
   have y0 := cy 0 _ rfl
   have y1 := cy 1 _ rfl
   have y2 := cy 2 _ rfl
   have y3 := cy 3 _ rfl
   have y4 := cy 4 _ rfl
   have y5 := cy 5 _ rfl
   have y6 := cy 6 _ rfl
   simp only [Nat.add_zero] at x0 y0
   have i1 : (0 : Int) ≤ (i : Int) := by omega
   have i2 : (i : Int) < (l.length : Int) := by omega
   have i3 : (i : Int) < (m.length : Int) := by omega
   have CW := fun (W : World) (k : Old w W) => ref_order_any x y W ((H.out.2.2.1 x (List.mem_of_getElem? hx)).old k) ((H.out.2.2.2 y (List.mem_of_getElem? hy)).old k)
   unfold Con.cells at CW
   generalize ordC x.plain y.plain = zv at hst CW
   have CV := Lib.hid CW
   have HS := Lib.hid hst
   clear hx hy cx cy hc hc' CW hst
   by_cases hz : zv = 0
   ·subst hz
    have h2 : ((0 : Int) != 0) = false := rfl
    go_wp2_with fail
    refine wp_region_quiet_old (by kernel_rfl) (by kernel_rfl) ?_
    repeat (go_big_quiet_step (((go_at_call 75; exact Calls.quiet_of_old (CV.out _ (KW.out.trans (OldOf.old _)))))))
    refine wpQuiet_nil ?_
    intro _ hpq
    obtain ⟨pq, hpq'⟩ := hpq
    subst hpq'
    go_wp2_with fail
    go_roundw
    case rel => exact ⟨i + 1, by omega, by omega, by go_num, HR.out.trans (by have := HS.out; simpa using this), KW.out.trans pq.old⟩
    case measure => simp [intOf]; omega
   ·have h2 : (zv != 0) = true := by rw [bne_iff_ne]; exact hz
    have hs2 := HS.out
    rw [if_neg hz] at hs2
    have HS2 := Lib.hid hs2
    clear hz hs2
    go_wp2_with fail
    refine wp_region_quiet_old (by kernel_rfl) (by kernel_rfl) ?_
    repeat (go_big_quiet_step (((go_at_call 75; exact Calls.quiet_of_old (CV.out _ (KW.out.trans (OldOf.old _)))))))
    refine wpQuiet_nil ?_
    intro _ hpq
    obtain ⟨pq, hpq'⟩ := hpq
    subst hpq'
    go_wp2_with fail
    go_ret
    exact ⟨ret_int (by rw [HR.out, HS2.out]), KW.out.trans pq.old⟩
  ·have hor : l.length ≤ i ∨ m.length ≤ i := by omega
   have hend := ordL_end (f := ordC) (l := l.map Con.plain) (m := m.map Con.plain) (i := i) (by simpa using hi) (by simpa using hi') (by simpa using hor)
   rw [List.length_map, List.length_map] at hend
   have HE := Lib.hid (HR.out.trans hend)
   clear hlt hend
   rcases Nat.lt_trichotomy l.length m.length with g | g | g
   ·have hs2 := HE.out
    rw [if_pos g] at hs2
    have HS2 := Lib.hid hs2
    have j1 : ¬ i < l.length := by omega
    clear hs2 hor
    go_wp2_with fail
    go_ret
    exact ⟨ret_int (by rw [HS2.out]), KW.out⟩
   ·have hs2 := HE.out
    rw [if_neg (by omega), if_neg (by omega)] at hs2
    have HS2 := Lib.hid hs2
    have j1 : ¬ i < l.length := by omega
    have j2 : ¬ l.length < m.length := by omega
    have j3 : ¬ m.length < l.length := by omega
    clear hs2 hor g
    go_wp2_with fail
    go_ret
    exact ⟨ret_int (by rw [HS2.out]), KW.out⟩
   ·have hs2 := HE.out
    rw [if_neg (by omega), if_pos g] at hs2
    have HS2 := Lib.hid hs2
    have j1 : i < l.length := by omega
    have j4 : ¬ i < m.length := by omega
    have j2 : ¬ l.length < m.length := by omega
    clear hs2 hor
    go_wp2_with fail
    go_ret
    exact ⟨ret_int (by rw [HS2.out]), KW.out⟩
/-- are these predicates the same? -/
def sameP (l m : List PCon) : Bool := ordP l m == 0
theorem sameP_iff {l m : List PCon} : sameP l m = true ↔ l = m := by unfold sameP; rw [beq_iff_eq, ordP_zero]
theorem same_pred_any (v v' : Value) (l m : List Con) (w : World) (h : SeesR w 7 Con.cells v l) (h' : SeesR w 7 Con.cells v' m) (hf : ∀ x ∈ l, SeesV w x.sv x.set) (hf' : ∀ x ∈ m, SeesV w x.sv x.set) :
  Calls Try.prog 39 #[v, v'] w fun e w' => e = .returned (.bool (sameP (l.map Con.plain) (m.map Con.plain))) ∧ Old w w' := by
 have C := ref_cmp_pred_any v v' l m w h h' hf hf'
 unfold sameP
 generalize ordP (l.map Con.plain) (m.map Con.plain) = z at C ⊢
 have HC := Lib.hid C
 obtain ⟨p, c, rfl, _, _⟩ := h.len
 obtain ⟨p', c', rfl, _, _⟩ := h'.len
 clear C h h' hf hf'
 go_enter Try.func39, Try.ntmps39
 go_wp2_with fail
 refine HC.out.mono ?_
 rintro e w1 ⟨rfl, k1⟩
 have K := Lib.hid k1
 clear k1
 go_wp2_with fail
 go_ret
 exact ⟨rfl, K.out⟩

/-- are these items the same? -/
def sameI (x y : PIt) : Bool := (x.n == y.n) && ((x.time == y.time) && sameE x.key x.es y.key y.es)
set_option maxRecDepth 100000 in
theorem same_item_any (x y : It) (w : World) (h : x.fine w) (h' : y.fine w) :
  Calls Try.prog 40 #[.agg x.cells.toArray, .agg y.cells.toArray] w fun e w' => e = .returned (.bool (sameI x.plain y.plain)) ∧ Old w w' := by
 have C := fun W (k : Old w W) => same_ev_any x.key y.key x.av y.av x.es y.es W (h.1.old k) (h'.1.old k)
 obtain ⟨n, tm, key, av, es⟩ := x
 obtain ⟨n', tm', key', av', es'⟩ := y
 obtain ⟨p, c, e1, _, _⟩ := h.1.len
 obtain ⟨p', c', e2, _, _⟩ := h'.1.len
 simp only at e1 e2
 subst e1 e2
 unfold It.cells It.plain sameI
 simp only at C ⊢
 generalize sameE key es key' es' = z at C ⊢
 have HC := Lib.hid C
 obtain ⟨W0, hW0⟩ : ∃ W0, (w.alloc (.cells #[.int .u64 n, .int .u64 tm, .string key, .slice p es.length c] 35)).alloc (.cells #[.int .u64 n', .int .u64 tm', .string key', .slice p' es'.length c'] 35) = W0 := ⟨_, rfl⟩
 have k0 : Old w W0 := by rw [← hW0]; exact ((Keeps.refl _ _).alloc _).alloc _
 obtain ⟨b0, b1⟩ := two_blocks w (.cells #[.int .u64 n, .int .u64 tm, .string key, .slice p es.length c] 35) (.cells #[.int .u64 n', .int .u64 tm', .string key', .slice p' es'.length c'] 35)
 rw [hW0] at b0 b1
 have g0 := blk4 b0
 have g1 := blk4 b1
 have K := Lib.hid k0
 clear k0 b0 b1 C h h'
 cases hn : (n == n')
 ·have hi : ((n : Int) == (n' : Int)) = false := by rw [beq_eq_false_iff_ne] at hn ⊢; omega
  clear hn
  go_enter Try.func40, Try.ntmps40
  go_wp2_with fail
  go_ret
  exact ⟨rfl, K.out⟩
 ·have hi : ((n : Int) == (n' : Int)) = true := by rw [beq_iff_eq] at hn ⊢; omega
  clear hn
  cases ht : (tm == tm')
  ·have hi2 : ((tm : Int) == (tm' : Int)) = false := by rw [beq_eq_false_iff_ne] at ht ⊢; omega
   clear ht
   go_enter Try.func40, Try.ntmps40
   go_wp2_with fail
   go_ret
   exact ⟨rfl, K.out⟩
  ·have hi2 : ((tm : Int) == (tm' : Int)) = true := by rw [beq_iff_eq] at ht ⊢; omega
   clear ht
   go_enter Try.func40, Try.ntmps40
   go_wp2_with fail
   refine (HC.out _ K.out).mono ?_
   rintro e w1 ⟨rfl, k1⟩
   have K1 := Lib.hid k1
   clear k1
   go_wp2_with fail
   go_ret
   exact ⟨rfl, K.out.trans K1.out⟩
end Go.Proofs.Ytiednihagnehlaa

namespace Go.Proofs.Ytiednihagnehlaa
open Go.RowKit

set_option maxRecDepth 100000 in
set_option maxHeartbeats 4000000 in
theorem may_page_deep (x : Pg) (w : World) (h : x.fine w) (ht : topOk x.plain = true) : Calls Try.prog 54 #[.agg x.cells.toArray] w fun e w' => e = .returned (.bool (itsOk x.en x.fr (x.its.map It.plain) && gapsOk x.en (x.its.map It.plain) x.fr x.gs)) ∧ Old w w' := by
 obtain ⟨fr, en, iv, its, gv, gs, last⟩ := x
 obtain ⟨⟨hi, hif, hg⟩, hgr, ⟨hfr, hen⟩, _⟩ := h
 obtain ⟨p1, c1, e1, i1, i2⟩ := hi.len
 obtain ⟨p2, c2, e2, j1, j2⟩ := hg.len
 simp only at e1 e2 hi hif hg hgr hfr hen i1 i2 j1 j2
 subst e1 e2
 have him : its.length ≤ 9223372036854775807 := by unfold maxLen at i2; omega
 have hgm : gs.length ≤ 9223372036854775807 := by unfold maxLen at j2; omega
 unfold Pg.cells
 simp only
 generalize hW0 : w.alloc (.cells #[.int .u64 fr, .int .u64 en, .slice p1 its.length c1, .slice p2 gs.length c2, .bool last] 41) = W0
 have k0 : Old w W0 := by rw [← hW0]; exact (Keeps.refl _ _).alloc _
 have hb0 : W0.heap[w.heap.size]? = some (.cells #[.int .u64 fr, .int .u64 en, .slice p1 its.length c1, .slice p2 gs.length c2, .bool last] 41 (0, 0)) := by rw [← hW0]; exact heap_alloc_new _ _
 have g0 := (blk5 hb0).1
 unfold topOk Pg.plain at ht
 simp only [List.length_map, Bool.and_eq_true, decide_eq_true_eq] at ht
 obtain ⟨ha, hb, hc, hd, he⟩ := ht
 have a1 : decide (fr < 1) = false := by simp; omega
 have a2 : decide ((fr : Int) < 1) = false := by simp; omega
 have a3 : decide (fr = 0) = false := by simp; omega
 have b1 : decide (en < fr) = false := by simp; omega
 have b2 : decide ((en : Int) < (fr : Int)) = false := by simp; omega
 have c1 : decide (1099511627777 < en) = false := by simp; omega
 have c2 : decide ((1099511627777 : Int) < (en : Int)) = false := by simp; omega
 have d1 : decide (4 < its.length) = false := by simp; omega
 have d2 : decide ((4 : Int) < (its.length : Int)) = false := by simp; omega
 have e1 : decide (16 < gs.length) = false := by simp; omega
 have e2 : decide ((16 : Int) < (gs.length : Int)) = false := by simp; omega
 obtain ⟨G, hG⟩ : ∃ G, gapsOk en (its.map It.plain) fr gs = G := ⟨_, rfl⟩
 obtain ⟨res, hres⟩ : ∃ r, (itsOk en fr (its.map It.plain) && G) = r := ⟨_, rfl⟩
 rw [hG, hres]
 have HR := Lib.hid (And.intro hres hG)
 have H := Lib.hid (And.intro k0 (And.intro hb0 (And.intro hi (And.intro hif (And.intro hg hgr)))))
 have hmf : ∀ (fn : Fn) (first cap : Array Value) (w : World), (Instr.makeFunc fn first cap).run Try.prog w = .ok (.func fn first cap) w := fun _ _ _ _ => rfl
 clear k0 hb0 hi hif hg hgr hres hG
 go_enter Try.func54, Try.ntmps54
 go_wp2_with fail
 go_loopw [3, 41] (fun v3 v41 wr => ∃ (k a : Nat), k ≤ its.length ∧ v41 = .int .i64 k ∧ v3 = .int .u64 a ∧ a ≤ 1099511627778 ∧ (itsOk en a ((its.drop k).map It.plain) && G) = res ∧ Old W0 wr) (fun _ v41 _ => its.length - (intOf v41).toNat)
 case atStart => exact ⟨0, fr, by omega, rfl, rfl, by omega, by simpa using HR.out.1, Keeps.refl _ _⟩
 case round =>
  obtain ⟨k, a, hk, rfl, rfl, hab, hr, hkw⟩ := hrel
  have hbb := (hkw.block _ (lt_of_heap H.out.2.1) (fun f => f)).trans H.out.2.1
  have gg := (blk5 hbb).1
  have hl0 := lt_of_heap hbb
  by_cases hlt : k < its.length
  ·obtain ⟨b0, o0, c0', he0, _, _, hcell⟩ := H.out.2.2.1.at (by omega)
   simp only [Value.slice.injEq, true_and] at he0
   obtain ⟨rfl, rfl⟩ := he0
   have hx : its[k]? = some its[k] := List.getElem?_eq_getElem hlt
   have hdr : its.drop k = its[k] :: its.drop (k + 1) := List.drop_eq_getElem_cons hlt
   generalize its[k] = y at hx hdr
   have hfy := It.fine.old (H.out.2.2.2.1 y (List.mem_of_getElem? hx)) (H.out.1.trans hkw)
   obtain ⟨p9, c9, e9, _, _⟩ := hfy.1.len
   obtain ⟨n, t, key, av, es⟩ := y
   simp only at e9
   subst e9
   have kw := H.out.1.trans hkw
   have cell : ∀ i u, (It.cells ⟨n, t, key, .slice p9 es.length c9, es⟩)[i]? = some u → wr.cell? ⟨b0, o0 + k * 4 + i, none⟩ = some u := fun i u hu => kw.cell (hcell k _ hx i u hu) (fun f => f)
   have q0 := cell 0 _ rfl
   have q1 := cell 1 _ rfl
   have q2 := cell 2 _ rfl
   have q3 := cell 3 _ rfl
   simp only [Nat.add_zero] at q0
   rw [hdr, List.map_cons, itsOk] at hr
   have k3 : Old wr (wr.alloc (.cells #[.int .u64 n, .int .u64 t, .string key, .slice p9 es.length c9] 35)) := (Keeps.refl _ _).alloc _
   have b3 := heap_alloc_new wr (.cells #[.int .u64 n, .int .u64 t, .string key, .slice p9 es.length c9] 35)
   have C := Lib.hid (may_item_any ⟨n, t, key, .slice p9 es.length c9, es⟩ _ (It.fine.old hfy k3))
   unfold It.cells at C
   have hn64 := hfy.2.2.2.1
   simp only at hn64
   obtain ⟨ok, hok⟩ : ∃ b, itOk (It.plain ⟨n, t, key, .slice p9 es.length c9, es⟩) = b := ⟨_, rfl⟩
   rw [hok] at C hr
   have hr' : (ok && (decide (a ≤ n) && (decide (n < en) && itsOk en (n + 1) ((its.drop (k + 1)).map It.plain))) && G) = res := hr
   have HX := Lib.hid (And.intro hr' (And.intro (hkw.trans k3) (And.intro b3 ((k3.block _ hl0 (fun f => f)).trans hbb))))
   clear cell hx hdr hfy kw k3 b3 hr hkw hcell hr' hbb hok
   cases ok
   ·have er : res = false := by rw [← HX.out.1]; rfl
    clear HR
    subst er
    go_wp2_with fail
    refine C.out.mono ?_
    rintro e w1 ⟨rfl, hk1⟩
    have K := Lib.hid (H.out.1.trans (HX.out.2.1.trans hk1))
    clear hk1
    go_wp2_with fail
    go_ret
    exact ⟨rfl, K.out⟩
   ·by_cases h1 : a ≤ n
    ·have d1 : decide (n < a) = false := by simp; omega
     have d2 : decide ((n : Int) < (a : Int)) = false := by simp; omega
     by_cases h2 : n < en
     ·have d3 : decide (en ≤ n) = false := by simp; omega
      have d4 : decide ((en : Int) ≤ (n : Int)) = false := by simp; omega
      have hn1 : IntKind.u64.wrap ((n : Int) + 1) = (n : Int) + 1 := by rw [IntKind.wrap_u64]; omega
      have E := Lib.hid (show (itsOk en (n + 1) ((its.drop (k + 1)).map It.plain) && G) = res from by rw [← HX.out.1]; simp [h1, h2])
      go_wp2_with fail
      refine C.out.mono ?_
      rintro e w1 ⟨rfl, hk1⟩
      have m1 := (hk1.block _ (lt_of_heap HX.out.2.2.1) (fun f => f)).trans HX.out.2.2.1
      have m2 := (hk1.block _ (lt_of_heap HX.out.2.2.2) (fun f => f)).trans HX.out.2.2.2
      have g3 := (blk4 m1).1
      have g4 := (blk5 m2).1
      have K := Lib.hid (HX.out.2.1.trans hk1)
      clear hk1 m1 m2 gg
      go_wp2_with fail
      go_roundw
      case rel => exact ⟨k + 1, n + 1, by omega, by go_num, by go_num, by omega, E.out, K.out⟩
      case measure => simp [intOf]; omega
     ·have d3 : decide (en ≤ n) = true := by simp; omega
      have d4 : decide ((en : Int) ≤ (n : Int)) = true := by simp; omega
      have er : res = false := by rw [← HX.out.1]; simp [h2]
      clear HR
      subst er
      go_wp2_with fail
      refine C.out.mono ?_
      rintro e w1 ⟨rfl, hk1⟩
      have m1 := (hk1.block _ (lt_of_heap HX.out.2.2.1) (fun f => f)).trans HX.out.2.2.1
      have m2 := (hk1.block _ (lt_of_heap HX.out.2.2.2) (fun f => f)).trans HX.out.2.2.2
      have g3 := (blk4 m1).1
      have g4 := (blk5 m2).1
      have K := Lib.hid (H.out.1.trans (HX.out.2.1.trans hk1))
      clear hk1 m1 m2 gg
      go_wp2_with fail
      go_ret
      exact ⟨rfl, K.out⟩
    ·have d1 : decide (n < a) = true := by simp; omega
     have d2 : decide ((n : Int) < (a : Int)) = true := by simp; omega
     have er : res = false := by rw [← HX.out.1]; simp [h1]
     clear HR
     subst er
     go_wp2_with fail
     refine C.out.mono ?_
     rintro e w1 ⟨rfl, hk1⟩
     have m1 := (hk1.block _ (lt_of_heap HX.out.2.2.1) (fun f => f)).trans HX.out.2.2.1
     have m2 := (hk1.block _ (lt_of_heap HX.out.2.2.2) (fun f => f)).trans HX.out.2.2.2
     have g3 := (blk4 m1).1
     have g4 := (blk5 m2).1
     have K := Lib.hid (H.out.1.trans (HX.out.2.1.trans hk1))
     clear hk1 m1 m2 gg
     go_wp2_with fail
     go_ret
     exact ⟨rfl, K.out⟩
  ·have er : G = res := by rw [← hr, List.drop_of_length_le (by omega)]; rfl
   have HG := Lib.hid (HR.out.2.trans er)
   have HK := Lib.hid hkw
   clear hr hkw hbb HR er
   go_wp2_with fail
   obtain ⟨wo, rfl⟩ : ∃ wo : World, wo = wr := ⟨_, rfl⟩
   go_loopw [3, 70] (fun v3 v70 wr => ∃ (k a : Nat), k ≤ gs.length ∧ v70 = .int .i64 k ∧ v3 = .int .u64 a ∧ a ≤ 1099511627778 ∧ gapsOk en (its.map It.plain) a (gs.drop k) = res ∧ Old W0 wr) (fun _ v70 _ => gs.length - (intOf v70).toNat)
   case atStart => exact ⟨0, fr, by omega, rfl, rfl, by omega, by simpa using HG.out, HK.out⟩
   case round =>
    obtain ⟨k, a, hk, rfl, rfl, hab, hr, hkw⟩ := hrel
    have hbb := (hkw.block _ (lt_of_heap H.out.2.1) (fun f => f)).trans H.out.2.1
    have gg := (blk5 hbb).1
    have hl0 := lt_of_heap hbb
    by_cases hlt : k < gs.length
    ·obtain ⟨b0, o0, c0', he0, _, _, hcell⟩ := H.out.2.2.2.2.1.at (by omega)
     simp only [Value.slice.injEq, true_and] at he0
     obtain ⟨rfl, rfl⟩ := he0
     have hx : gs[k]? = some gs[k] := List.getElem?_eq_getElem hlt
     have hdr : gs.drop k = gs[k] :: gs.drop (k + 1) := List.drop_eq_getElem_cons hlt
     have hrg := H.out.2.2.2.2.2 gs[k] (List.getElem_mem hlt)
     generalize gs[k] = y at hx hdr hrg
     obtain ⟨ga, gz⟩ := y
     simp only at hrg
     have kw := H.out.1.trans hkw
     have cell : ∀ i u, (gapL (ga, gz))[i]? = some u → wr.cell? ⟨b0, o0 + k * 2 + i, none⟩ = some u := fun i u hu => kw.cell (hcell k _ hx i u hu) (fun f => f)
     have q0 := cell 0 _ rfl
     have q1 := cell 1 _ rfl
     simp only [Nat.add_zero] at q0
     rw [hdr, gapsOk, all_plain] at hr
     have k3 : Old wr (wr.alloc (.cells #[.int .u64 ga, .int .u64 gz] 116)) := (Keeps.refl _ _).alloc _
     have b3 := heap_alloc_new wr (.cells #[.int .u64 ga, .int .u64 gz] 116)
     have C := Lib.hid (contains_its_any wr.heap.size (ga, gz) _ its (wr.alloc (.cells #[.int .u64 ga, .int .u64 gz] 116)) (H.out.2.2.1.old (kw.trans k3)) (fun y hy => It.fine.old (H.out.2.2.2.1 y hy) (kw.trans k3)) (fun x hx W hO => may_page1_any _ _ x W (It.fine.old hx hO) ((hO.block _ (lt_of_heap b3) (fun f => f)).trans b3)))
     obtain ⟨ok, hok⟩ : ∃ b, its.all (outG (ga, gz)) = b := ⟨_, rfl⟩
     rw [hok] at C hr
     have HX := Lib.hid (And.intro hr (And.intro (hkw.trans k3) (And.intro b3 ((k3.block _ hl0 (fun f => f)).trans hbb))))
     clear cell hx hdr kw k3 b3 hr hkw hcell hbb hok
     by_cases h1 : a ≤ ga
     ·have d1 : decide (ga < a) = false := by simp; omega
      have d2 : decide ((ga : Int) < (a : Int)) = false := by simp; omega
      by_cases h2 : ga ≤ gz
      ·have d3 : decide (gz < ga) = false := by simp; omega
       have d4 : decide ((gz : Int) < (ga : Int)) = false := by simp; omega
       by_cases h3 : gz < en
       ·have d5 : decide (en ≤ gz) = false := by simp; omega
        have d6 : decide ((en : Int) ≤ (gz : Int)) = false := by simp; omega
        have hn1 : IntKind.u64.wrap ((gz : Int) + 1) = (gz : Int) + 1 := by rw [IntKind.wrap_u64]; omega
        cases ok
        ·have er : res = false := by rw [← HX.out.1]; simp
         clear HG
         subst er
         go_wp2_with fail
         refine C.out.mono ?_
         rintro e w1 ⟨rfl, hk1⟩
         have K := Lib.hid (H.out.1.trans (HX.out.2.1.trans hk1))
         clear hk1
         go_wp2_with fail
         go_ret
         exact ⟨rfl, K.out⟩
        ·have E := Lib.hid (show gapsOk en (its.map It.plain) (gz + 1) (gs.drop (k + 1)) = res from by rw [← HX.out.1]; simp [h1, h2, h3])
         go_wp2_with fail
         refine C.out.mono ?_
         rintro e w1 ⟨rfl, hk1⟩
         have m1 := (hk1.block _ (lt_of_heap HX.out.2.2.1) (fun f => f)).trans HX.out.2.2.1
         have g3 := (blk2 m1).1
         have K := Lib.hid (HX.out.2.1.trans hk1)
         clear hk1 m1 gg
         go_wp2_with fail
         go_roundw
         case rel => exact ⟨k + 1, gz + 1, by omega, by go_num, by go_num, by omega, E.out, K.out⟩
         case measure => simp [intOf]; omega
       ·have d5 : decide (en ≤ gz) = true := by simp; omega
        have d6 : decide ((en : Int) ≤ (gz : Int)) = true := by simp; omega
        have er : res = false := by rw [← HX.out.1]; simp [h3]
        have K := Lib.hid (H.out.1.trans HX.out.2.1)
        clear HG
        subst er
        go_wp2_with fail
        go_ret
        exact ⟨rfl, K.out⟩
      ·have d3 : decide (gz < ga) = true := by simp; omega
       have d4 : decide ((gz : Int) < (ga : Int)) = true := by simp; omega
       have er : res = false := by rw [← HX.out.1]; simp [h2]
       have K := Lib.hid (H.out.1.trans HX.out.2.1)
       clear HG
       subst er
       go_wp2_with fail
       go_ret
       exact ⟨rfl, K.out⟩
     ·have d1 : decide (ga < a) = true := by simp; omega
      have d2 : decide ((ga : Int) < (a : Int)) = true := by simp; omega
      have er : res = false := by rw [← HX.out.1]; simp [h1]
      have K := Lib.hid (H.out.1.trans HX.out.2.1)
      clear HG
      subst er
      go_wp2_with fail
      go_ret
      exact ⟨rfl, K.out⟩
    ·have er : res = true := by rw [← hr, List.drop_of_length_le (by omega)]; rfl
     have K := Lib.hid (H.out.1.trans hkw)
     clear hr hkw hbb HG
     subst er
     go_wp2_with fail
     go_ret
     exact ⟨rfl, K.out⟩
theorem may_page_any (x : Pg) (w : World) (h : x.fine w) : Calls Try.prog 54 #[.agg x.cells.toArray] w fun e w' => e = .returned (.bool (pgOk x.plain)) ∧ Old w w' := by
 unfold pgOk
 cases ht : topOk x.plain
 ·exact may_page_top x w h ht
 ·exact may_page_deep x w h ht
end Go.Proofs.Ytiednihagnehlaa
