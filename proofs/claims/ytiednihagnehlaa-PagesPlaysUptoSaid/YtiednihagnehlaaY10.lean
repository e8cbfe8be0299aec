/- DERIVED. The document's sameness of pages. · DERIVED. Chapter 21: sameness of items and pages, small functions. · DERIVED. Chapter 21: event.Same, msg.sameItem, slices.EqualFunc of items, msg.samePage. -/
import Derived.Test.YtiednihagnehlaaY09
import Derived.Test.YtiednihagnehlaaY07
import Derived.Test.YtiednihagnehlaaY02
import Derived.Deep.DeepCutAuto
namespace Go.Proofs.Ytiednihagnehlaa
open Go.RowKit

theorem eq_u64 (d : Nat) (x y : Int) (W : World) : (Op.equalIn (d+1) 28 (.int .u64 x) (.int .u64 y)).run Try.prog W = .ok (x == y) W := by
 unfold Op.equalIn; simp [go_sem]
theorem eq_gap_in (m : Nat) (F : ∀ x y W, (Op.equalIn m 28 (.int .u64 x) (.int .u64 y)).run Try.prog W = .ok (x == y) W) (a a' b b' : Int) (W : World) :
  (Op.equalIn (m+1) 116 (.agg #[.int .u64 a, .int .u64 b]) (.agg #[.int .u64 a', .int .u64 b'])).run Try.prog W = .ok (a == a' && b == b') W := by
 have hst : Try.prog.stoodInHeld 116 = false := by kernel_rfl
 unfold Op.equalIn
 cases h1 : (a == a')
 ·simp [go_sem, hst, F, h1]
 ·cases h2 : (b == b') <;> simp [go_sem, hst, F, h1, h2]
theorem neq_gap (a a' b b' : Int) (W : World) :
  (binOp .neq 116 (.agg #[.int .u64 a, .int .u64 b]) (.agg #[.int .u64 a', .int .u64 b'])).run Try.prog W = .ok (.bool (!(a == a' && b == b'))) W := by
 have h := eq_gap_in 9999 (eq_u64 9998) a a' b b' W
 simp [binOp, go_sem, Op.equal, Op.maxDepth, h]
theorem eqAt_iff (a b : At) : eqAt a b = true ↔ a = b := by
 obtain ⟨x, ⟨k, n, s, t⟩⟩ := a
 obtain ⟨x', ⟨k', n', s', t'⟩⟩ := b
 unfold eqAt
 simp only [Bool.and_eq_true, bytes_eq, beq_iff_eq, At.mk.injEq, Val.mk.injEq]
theorem sameE_iff (k k' : ByteArray) (l m : List At) : sameE k l k' m = true ↔ k = k' ∧ l = m := by
 unfold sameE sameL
 simp only [Bool.and_eq_true, beq_iff_eq, decide_eq_true_eq, List.all_eq_true, List.mem_range]
 constructor
 ·rintro ⟨h1, h2, h3⟩
  refine ⟨arr_ext h1, List.ext_getElem h2 (fun i g1 g2 => ?_)⟩
  have h := h3 i g1
  unfold sameAt at h
  rw [List.getElem?_eq_getElem g1, List.getElem?_eq_getElem g2] at h
  exact (eqAt_iff _ _).1 h
 ·rintro ⟨rfl, rfl⟩
  refine ⟨rfl, rfl, fun i hi => ?_⟩
  unfold sameAt
  rw [List.getElem?_eq_getElem hi]
  exact (eqAt_iff _ _).2 rfl
theorem sameI_iff (x y : PIt) : sameI x y = true ↔ x = y := by
 obtain ⟨n, tm, k, es⟩ := x
 obtain ⟨n', tm', k', es'⟩ := y
 unfold sameI
 simp only [Bool.and_eq_true, beq_iff_eq, sameE_iff, PIt.mk.injEq]
/-- are these lists the same? -/
def eqL {α : Type} (f : α → α → Bool) : List α → List α → Bool
 | [], [] => true
 | a :: l, b :: m => f a b && eqL f l m
 | [], _ :: _ => false
 | _ :: _, [] => false
theorem eqL_iff {α : Type} {f : α → α → Bool} (hf : ∀ a b, f a b = true ↔ a = b) : ∀ l m, eqL f l m = true ↔ l = m
 | [], [] => by simp [eqL]
 | [], _ :: _ => by simp [eqL]
 | _ :: _, [] => by simp [eqL]
 | a :: l, b :: m => by simp [eqL, hf, eqL_iff hf l m]
/-- are these pages the same? -/
def sameG (x y : PPg) : Bool := (x.fr == y.fr) && ((x.en == y.en) && ((x.last == y.last) && (eqL sameI x.items y.items && eqL (fun a b => a == b) x.gaps y.gaps)))
theorem sameG_iff (x y : PPg) : sameG x y = true ↔ x = y := by
 obtain ⟨a, b, c, d, e⟩ := x
 obtain ⟨a', b', c', d', e'⟩ := y
 unfold sameG
 simp only [Bool.and_eq_true, beq_iff_eq, eqL_iff sameI_iff, eqL_iff (fun (a b : PGap) => (beq_iff_eq : (a == b) = true ↔ a = b)), PPg.mk.injEq]
 constructor
 ·rintro ⟨h1, h2, h3, h4, h5⟩; exact ⟨h1, h2, h4, h5, h3⟩
 ·rintro ⟨h1, h2, h4, h5, h3⟩; exact ⟨h1, h2, h3, h4, h5⟩
theorem sameG_no {x y : PPg} (h : ¬ x = y) : sameG x y = false := by rw [Bool.eq_false_iff]; exact fun g => h ((sameG_iff x y).1 g)
theorem take_next {α : Type} {l m : List α} {i : Nat} (h : l.take i = m.take i) {x : α} (hx : l[i]? = some x) (hy : m[i]? = some x) : l.take (i + 1) = m.take (i + 1) := by
 rw [List.take_add_one, List.take_add_one, h, hx, hy]

set_option maxRecDepth 100000 in
set_option maxHeartbeats 4000000 in
theorem same_page_any (x y : Pg) (w : World) (h : x.fine w) (h' : y.fine w) :
  Calls Try.prog 41 #[.agg x.cells.toArray, .agg y.cells.toArray] w fun e w' => e = .returned (.bool (sameG x.plain y.plain)) ∧ Old w w' := by
 obtain ⟨fr, en, iv, its, gv, gs, last⟩ := x
 obtain ⟨fr', en', iv', its', gv', gs', last'⟩ := y
 obtain ⟨⟨hi, hif, hg⟩, _, _, _⟩ := h
 obtain ⟨⟨hi', hif', hg'⟩, _, _, _⟩ := h'
 simp only at hi hif hg hi' hif' hg'
 obtain ⟨p, c, rfl, b1, b2⟩ := hi.len
 obtain ⟨p', c', rfl, b3, b4⟩ := hi'.len
 obtain ⟨q, d, rfl, b5, b6⟩ := hg.len
 obtain ⟨q', d', rfl, b7, b8⟩ := hg'.len
 have m1 : its.length ≤ 9223372036854775807 := by unfold maxLen at b2; omega
 have m2 : its'.length ≤ 9223372036854775807 := by unfold maxLen at b4; omega
 have m3 : gs.length ≤ 9223372036854775807 := by unfold maxLen at b6; omega
 have m4 : gs'.length ≤ 9223372036854775807 := by unfold maxLen at b8; omega
 clear b1 b2 b3 b4 b5 b6 b7 b8
 have H := Lib.hid (And.intro hi (And.intro hi' (And.intro hg (And.intro hg' (And.intro hif hif')))))
 clear hi hi' hg hg' hif hif'
 have hS := sameG_iff (Pg.plain ⟨fr, en, .slice p its.length c, its, .slice q gs.length d, gs, last⟩) (Pg.plain ⟨fr', en', .slice p' its'.length c', its', .slice q' gs'.length d', gs', last'⟩)
 generalize sameG (Pg.plain ⟨fr, en, .slice p its.length c, its, .slice q gs.length d, gs, last⟩) (Pg.plain ⟨fr', en', .slice p' its'.length c', its', .slice q' gs'.length d', gs', last'⟩) = z at hS ⊢
 unfold Pg.plain at hS
 simp only [PPg.mk.injEq] at hS
 unfold Pg.cells
 simp only
 obtain ⟨W0, hW0⟩ : ∃ W0, (w.alloc (.cells #[.int .u64 fr, .int .u64 en, .slice p its.length c, .slice q gs.length d, .bool last] 41)).alloc (.cells #[.int .u64 fr', .int .u64 en', .slice p' its'.length c', .slice q' gs'.length d', .bool last'] 41) = W0 := ⟨_, rfl⟩
 have k0 : Old w W0 := by rw [← hW0]; exact ((Keeps.refl _ _).alloc _).alloc _
 obtain ⟨b0, b1⟩ := two_blocks w (.cells #[.int .u64 fr, .int .u64 en, .slice p its.length c, .slice q gs.length d, .bool last] 41) (.cells #[.int .u64 fr', .int .u64 en', .slice p' its'.length c', .slice q' gs'.length d', .bool last'] 41)
 rw [hW0] at b0 b1
 have g0 := blk5 b0
 have g1 := blk5 b1
 have B := Lib.hid (And.intro k0 (And.intro b0 b1))
 clear k0 b0 b1
 by_cases h1 : fr = fr'
 case neg =>
  have t1 : ((fr : Int) != (fr' : Int)) = true := by rw [bne_iff_ne]; omega
  obtain rfl : z = false := by rw [Bool.eq_false_iff]; exact fun g => h1 (hS.1 g).1
  clear hS h1
  go_enter Try.func41, Try.ntmps41
  go_wp2_with fail
  go_ret
  exact ⟨rfl, B.out.1⟩
 subst h1
 have t1 : ((fr : Int) != (fr : Int)) = false := by simp
 by_cases h2 : en = en'
 case neg =>
  have t2 : ((en : Int) != (en' : Int)) = true := by rw [bne_iff_ne]; omega
  obtain rfl : z = false := by rw [Bool.eq_false_iff]; exact fun g => h2 (hS.1 g).2.1
  clear hS h2
  go_enter Try.func41, Try.ntmps41
  go_wp2_with fail
  go_ret
  exact ⟨rfl, B.out.1⟩
 subst h2
 have t2 : ((en : Int) != (en : Int)) = false := by simp
 by_cases h3 : last = last'
 case neg =>
  obtain rfl : z = false := by rw [Bool.eq_false_iff]; exact fun g => h3 (hS.1 g).2.2.2.2
  clear hS
  cases last <;> cases last'
  all_goals first | exact absurd rfl h3 | skip
  all_goals
   clear h3
   go_enter Try.func41, Try.ntmps41
   go_wp2_with fail
   go_ret
   exact ⟨rfl, B.out.1⟩
 subst h3
 have t3 : (last != last) = false := by simp
 by_cases h4 : its.length = its'.length
 case neg =>
  have t4 : ((its.length : Int) != (its'.length : Int)) = true := by rw [bne_iff_ne]; omega
  obtain rfl : z = false := by rw [Bool.eq_false_iff]; exact fun g => h4 (by have := congrArg List.length (hS.1 g).2.2.1; simpa using this)
  clear hS h4
  go_enter Try.func41, Try.ntmps41
  go_wp2_with fail
  go_ret
  exact ⟨rfl, B.out.1⟩
 have t4 : ((its.length : Int) != (its'.length : Int)) = false := by rw [h4]; simp
 by_cases h5 : gs.length = gs'.length
 case neg =>
  have t5 : ((gs.length : Int) != (gs'.length : Int)) = true := by rw [bne_iff_ne]; omega
  obtain rfl : z = false := by rw [Bool.eq_false_iff]; exact fun g => h5 (by have := congrArg List.length (hS.1 g).2.2.2.1; simpa using this)
  clear hS h4 h5
  go_enter Try.func41, Try.ntmps41
  go_wp2_with fail
  go_ret
  exact ⟨rfl, B.out.1⟩
 have t5 : ((gs.length : Int) != (gs'.length : Int)) = false := by rw [h5]; simp
 have HL := Lib.hid (And.intro h4 h5)
 have HS := Lib.hid hS
 clear hS h4 h5
 go_enter Try.func41, Try.ntmps41
 go_wp2_with fail
 clear t1 t2 t3 t4 t5 g0 g1
 go_loopw [5] (fun v5 wr => ∃ i : Nat, i ≤ its.length ∧ v5 = .int .i64 i ∧ (its.map It.plain).take i = (its'.map It.plain).take i ∧ Old W0 wr) (fun v5 _ => its.length - (intOf v5).toNat)
 case atStart => exact ⟨0, by omega, rfl, rfl, Keeps.refl _ _⟩
 case round =>
  obtain ⟨i, hi, rfl, hr, hk⟩ := hrel
  have HR := Lib.hid hr
  have b0 := (hk.block _ (lt_of_heap B.out.2.1) (fun f => f)).trans B.out.2.1
  have b1 := (hk.block _ (lt_of_heap B.out.2.2) (fun f => f)).trans B.out.2.2
  have g0 := blk5 b0
  have g1 := blk5 b1
  have KW := Lib.hid (And.intro hk (And.intro b0 b1))
  clear hr hk b0 b1
  by_cases hlt : i < its.length
  ·have hlt' : i < its'.length := by have := HL.out.1; omega
   obtain ⟨b, o, cc, he, _, _, hc⟩ := H.out.1.at (by omega)
   obtain ⟨b', o', cc', he', _, _, hc'⟩ := H.out.2.1.at (by omega)
   simp only [Value.slice.injEq, true_and] at he he'
   obtain ⟨rfl, rfl⟩ := he
   obtain ⟨rfl, rfl⟩ := he'
   obtain ⟨x, hx⟩ : ∃ x, its[i]? = some x := ⟨_, List.getElem?_eq_getElem hlt⟩
   obtain ⟨y, hy⟩ : ∃ y, its'[i]? = some y := ⟨_, List.getElem?_eq_getElem hlt'⟩
   have cx := fun j u (hu : x.cells[j]? = some u) => OldOf.cell ((B.out.1.trans KW.out.1).cell (hc i x hx j u hu) (fun f => f))
   have cy := fun j u (hu : y.cells[j]? = some u) => OldOf.cell ((B.out.1.trans KW.out.1).cell (hc' i y hy j u hu) (fun f => f))
   have x0 := cx 0 _ rfl
   have x1 := cx 1 _ rfl
   have x2 := cx 2 _ rfl
   have x3 := cx 3 _ rfl
   have y0 := cy 0 _ rfl
   have y1 := cy 1 _ rfl
   have y2 := cy 2 _ rfl
   have y3 := cy 3 _ rfl
   simp only [Nat.add_zero] at x0 y0
   have n1 := OldOf.cell g0.1.2.2.1
   have n2 := OldOf.cell g1.1.2.2.1
   have i1 : (0 : Int) ≤ (i : Int) := by omega
   have i2 : (i : Int) < (its.length : Int) := by omega
   have i3 : (i : Int) < (its'.length : Int) := by omega
   have CW := fun (W : World) (k : Old w W) => same_item_any x y W (It.fine.old (H.out.2.2.2.2.1 x (List.mem_of_getElem? hx)) k) (It.fine.old (H.out.2.2.2.2.2 y (List.mem_of_getElem? hy)) k)
   unfold It.cells at CW
   have hxy := sameI_iff x.plain y.plain
   generalize sameI x.plain y.plain = zv at hxy CW
   have CV := Lib.hid CW
   have HX := Lib.hid (And.intro hx (And.intro hy hxy))
   clear hx hy cx cy hc hc' CW hxy
   cases zv
   ·go_wp2_with fail
    refine wp_region_quiet_old (by kernel_rfl) (by kernel_rfl) ?_
    repeat (go_big_quiet_step (((go_at_call 40; exact Calls.quiet_of_old (CV.out _ ((B.out.1.trans KW.out.1).trans (OldOf.old _)))))))
    refine wpQuiet_nil ?_
    intro _ hpq
    obtain ⟨pq, hpq'⟩ := hpq
    subst hpq'
    go_wp2_with fail
    go_ret
    refine ⟨ret_bool ?_, B.out.1.trans (KW.out.1.trans pq.old)⟩
    symm
    rw [Bool.eq_false_iff]
    intro g
    have e := congrArg (fun l => l[i]?) (HS.out.1 g).2.2.1
    simp [HX.out.1, HX.out.2.1] at e
    exact absurd (HX.out.2.2) (by simp [e])
   ·go_wp2_with fail
    refine wp_region_quiet_old (by kernel_rfl) (by kernel_rfl) ?_
    repeat (go_big_quiet_step (((go_at_call 40; exact Calls.quiet_of_old (CV.out _ ((B.out.1.trans KW.out.1).trans (OldOf.old _)))))))
    refine wpQuiet_nil ?_
    intro _ hpq
    obtain ⟨pq, hpq'⟩ := hpq
    subst hpq'
    go_wp2_with fail
    go_roundw
    case rel =>
     have e : x.plain = y.plain := by
      have h := HX.out.2.2
      first | exact h.1 rfl | exact h.1 trivial | exact h
     exact ⟨i + 1, by omega, by go_num, take_next HR.out (x := x.plain) (by simp [HX.out.1]) (by simp [HX.out.2.1, e]), KW.out.1.trans pq.old⟩
    case measure => simp [intOf]; omega
  ·have hall : its.map It.plain = its'.map It.plain := by
    have e := HR.out
    rw [List.take_of_length_le (by simp; omega), List.take_of_length_le (by have := HL.out.1; simp; omega)] at e
    exact e
   have HA := Lib.hid hall
   clear hall
   go_wp2_with fail
   obtain ⟨wo, hwo⟩ : ∃ wo : World, wo = wr := ⟨_, rfl⟩
   subst hwo
   go_loopw [6] (fun v6 wr => ∃ i : Nat, i ≤ gs.length ∧ v6 = .int .i64 i ∧ gs.take i = gs'.take i ∧ Old wo wr) (fun v6 _ => gs.length - (intOf v6).toNat)
   case atStart => exact ⟨0, by omega, rfl, rfl, Keeps.refl _ _⟩
   case round =>
    obtain ⟨i, hi, rfl, hr, hk⟩ := hrel
    have HR2 := Lib.hid hr
    have g0 := blk5 ((hk.block _ (lt_of_heap KW.out.2.1) (fun f => f)).trans KW.out.2.1)
    have g1 := blk5 ((hk.block _ (lt_of_heap KW.out.2.2) (fun f => f)).trans KW.out.2.2)
    have KX := Lib.hid hk
    clear hr hk
    by_cases hlt : i < gs.length
    ·have hlt' : i < gs'.length := by have := HL.out.2; omega
     obtain ⟨b, o, cc, he, _, _, hc⟩ := H.out.2.2.1.at (by omega)
     obtain ⟨b', o', cc', he', _, _, hc'⟩ := H.out.2.2.2.1.at (by omega)
     simp only [Value.slice.injEq, true_and] at he he'
     obtain ⟨rfl, rfl⟩ := he
     obtain ⟨rfl, rfl⟩ := he'
     obtain ⟨⟨xa, xb⟩, hx⟩ : ∃ x, gs[i]? = some x := ⟨_, List.getElem?_eq_getElem hlt⟩
     obtain ⟨⟨ya, yb⟩, hy⟩ : ∃ y, gs'[i]? = some y := ⟨_, List.getElem?_eq_getElem hlt'⟩
     have cx := fun j u (hu : (gapL (xa, xb))[j]? = some u) => OldOf.cell ((B.out.1.trans (KW.out.1.trans KX.out)).cell (hc i _ hx j u hu) (fun f => f))
     have cy := fun j u (hu : (gapL (ya, yb))[j]? = some u) => OldOf.cell ((B.out.1.trans (KW.out.1.trans KX.out)).cell (hc' i _ hy j u hu) (fun f => f))
     have x0 := cx 0 _ rfl
     have x1 := cx 1 _ rfl
     have y0 := cy 0 _ rfl
     have y1 := cy 1 _ rfl
     simp only [Nat.add_zero] at x0 y0
     have n1 := OldOf.cell g0.1.2.2.2.1
     have n2 := OldOf.cell g1.1.2.2.2.1
     have i1 : (0 : Int) ≤ (i : Int) := by omega
     have i2 : (i : Int) < (gs.length : Int) := by omega
     have i3 : (i : Int) < (gs'.length : Int) := by omega
     have hNE := neq_gap (xa : Int) (ya : Int) (xb : Int) (yb : Int)
     have hxy : (((xa : Int) == (ya : Int)) && ((xb : Int) == (yb : Int))) = true ↔ (xa, xb) = (ya, yb) := by simp only [Bool.and_eq_true, beq_iff_eq, Prod.mk.injEq]; omega
     generalize (((xa : Int) == (ya : Int)) && ((xb : Int) == (yb : Int))) = zv at hNE hxy
     have HX := Lib.hid (And.intro hx (And.intro hy hxy))
     clear hx hy cx cy hc hc' hxy
     cases zv
     ·go_wp2_with fail
      refine wp_region_quiet_old (by kernel_rfl) (by kernel_rfl) ?_
      repeat (go_big_quiet_step ((fail)))
      refine wpQuiet_nil ?_
      intro _ hpq
      obtain ⟨pq, hpq'⟩ := hpq
      subst hpq'
      go_wp2_with fail
      go_ret
      refine ⟨ret_bool ?_, B.out.1.trans (KW.out.1.trans (KX.out.trans pq.old))⟩
      symm
      rw [Bool.eq_false_iff]
      intro g
      have e := congrArg (fun l => l[i]?) (HS.out.1 g).2.2.2.1
      simp only [HX.out.1, HX.out.2.1, Option.some.injEq] at e
      exact absurd (HX.out.2.2) (by simp [e])
     ·go_wp2_with fail
      refine wp_region_quiet_old (by kernel_rfl) (by kernel_rfl) ?_
      repeat (go_big_quiet_step ((fail)))
      refine wpQuiet_nil ?_
      intro _ hpq
      obtain ⟨pq, hpq'⟩ := hpq
      subst hpq'
      go_wp2_with fail
      go_roundw
      case rel =>
       have e : (xa, xb) = (ya, yb) := by
        have h := HX.out.2.2
        first | exact h.1 rfl | exact h.1 trivial | exact h | (simpa using h)
       exact ⟨i + 1, by omega, by go_num, take_next HR2.out (x := (xa, xb)) HX.out.1 (by rw [HX.out.2.1, e]), KX.out.trans pq.old⟩
      case measure => simp [intOf]; omega
    ·have hall : gs = gs' := by
      have e := HR2.out
      rw [List.take_of_length_le (by omega), List.take_of_length_le (by have := HL.out.2; omega)] at e
      exact e
     have HB := Lib.hid hall
     clear hall
     go_wp2_with fail
     go_ret
     exact ⟨ret_bool (by have h := HS.out.2; simp only [true_and, and_true] at h; exact (h ⟨HA.out, HB.out⟩).symm), B.out.1.trans (KW.out.1.trans KX.out)⟩
end Go.Proofs.Ytiednihagnehlaa

namespace Go.Proofs.Ytiednihagnehlaa
open Go.RowKit

instance : DecidableEq At := fun a b => if h : eqAt a b = true then isTrue ((eqAt_iff a b).1 h) else isFalse fun e => h ((eqAt_iff a b).2 e)
set_option maxRecDepth 100000 in
set_option maxHeartbeats 2000000 in
theorem equal_attrs_any (v v' : Value) (l m : List At) (w : World) (h : SeesR w 5 At.cells v l) (h' : SeesR w 5 At.cells v' m) :
  Calls Try.prog 78 #[v, v'] w fun e w' => e = .returned (.bool (decide (l = m))) ∧ Old w w' := by
 obtain ⟨p, c, rfl, hb1, hb2⟩ := h.len
 obtain ⟨p', c', rfl, _, _⟩ := h'.len
 have hmm : l.length ≤ 9223372036854775807 := by unfold maxLen at hb2; omega
 clear hb1 hb2
 by_cases hl : l.length = m.length
 case neg =>
  have hln : ((l.length : Int) != (m.length : Int)) = true := by rw [bne_iff_ne]; omega
  have HL := Lib.hid hl
  clear hl h h'
  go_enter Try.func78, Try.ntmps78
  go_wp2_with fail
  go_ret
  exact ⟨ret_bool (by symm; rw [decide_eq_false_iff_not]; intro e; exact HL.out (by rw [e])), Keeps.refl _ _⟩
 case pos =>
  have hln : ((l.length : Int) != (m.length : Int)) = false := by rw [hl]; simp
  have H := Lib.hid (And.intro h (And.intro h' hl))
  clear h h' hl
  go_enter Try.func78, Try.ntmps78
  go_wp2_with fail
  go_loopw [5, 13] (fun _ v13 wr => ∃ i : Nat, i ≤ l.length ∧ v13 = .int .i64 i ∧ l.take i = m.take i ∧ Old w wr) (fun _ v13 _ => l.length - (intOf v13).toNat)
  case atStart => exact ⟨0, by omega, rfl, rfl, Keeps.refl _ _⟩
  case round =>
   obtain ⟨i, hi, rfl, hr, hk⟩ := hrel
   have HR := Lib.hid hr
   clear hr
   by_cases hlt : i < l.length
   ·obtain ⟨b, o, cc, he, _, _, hc⟩ := H.out.1.at (by omega)
    obtain ⟨b', o', cc', he', _, _, hc'⟩ := H.out.2.1.at (by have := H.out.2.2; omega)
    simp only [Value.slice.injEq, true_and] at he he'
    obtain ⟨rfl, rfl⟩ := he
    obtain ⟨rfl, rfl⟩ := he'
    obtain ⟨x, hx⟩ : ∃ x, l[i]? = some x := ⟨_, List.getElem?_eq_getElem hlt⟩
    obtain ⟨y, hy⟩ : ∃ y, m[i]? = some y := ⟨_, List.getElem?_eq_getElem (by have := H.out.2.2; omega)⟩
    skip
    have cx := fun j u (hu : (x.cells)[j]? = some u) => OldOf.cell (hk.cell (hc i _ hx j u hu) (fun f => f))
    have cy := fun j u (hu : (y.cells)[j]? = some u) => OldOf.cell (hk.cell (hc' i _ hy j u hu) (fun f => f))
    have x0 := cx 0 _ rfl
    have x1 := cx 1 _ rfl
    have x2 := cx 2 _ rfl
    have x3 := cx 3 _ rfl
    have x4 := cx 4 _ rfl
    have y0 := cy 0 _ rfl
    have y1 := cy 1 _ rfl
    have y2 := cy 2 _ rfl
    have y3 := cy 3 _ rfl
    have y4 := cy 4 _ rfl
    simp only [Nat.add_zero] at x0 y0
    have i1 : (0 : Int) ≤ (i : Int) := by omega
    have i2 : (i : Int) < (l.length : Int) := by omega
    have i3 : (i : Int) < (m.length : Int) := by have := H.out.2.2; omega
    have hNE := neq_attr x.name y.name x.val.kind y.val.kind x.val.num y.val.num x.val.str y.val.str x.val.is y.val.is
    have hxy : (x.name == y.name && (x.val.kind == y.val.kind && (x.val.num == y.val.num && (x.val.str == y.val.str && x.val.is == y.val.is)))) = true ↔ x = y := eqAt_iff x y
    generalize (x.name == y.name && (x.val.kind == y.val.kind && (x.val.num == y.val.num && (x.val.str == y.val.str && x.val.is == y.val.is)))) = zv at hNE hxy
    have KW := Lib.hid (And.intro hk (And.intro hx (And.intro hy hxy)))
    clear hx hy cx cy hc hc' hk hxy
    cases zv
    ·go_wp2_with fail
     refine wp_region_quiet_old (by kernel_rfl) (by kernel_rfl) ?_
     repeat (go_big_quiet_step ((fail)))
     refine wpQuiet_nil ?_
     intro _ hpq
     obtain ⟨pq, hpq'⟩ := hpq
     subst hpq'
     go_wp2_with fail
     go_ret
     refine ⟨ret_bool ?_, KW.out.1.trans pq.old⟩
     symm
     rw [decide_eq_false_iff_not]
     intro g
     have e := KW.out.2.1
     rw [g, KW.out.2.2.1, Option.some.injEq] at e
     have h2 := KW.out.2.2.2.2 e.symm
     simp at h2
    ·go_wp2_with fail
     refine wp_region_quiet_old (by kernel_rfl) (by kernel_rfl) ?_
     repeat (go_big_quiet_step ((fail)))
     refine wpQuiet_nil ?_
     intro _ hpq
     obtain ⟨pq, hpq'⟩ := hpq
     subst hpq'
     go_wp2_with fail
     go_roundw
     case rel =>
      have e := by
       have h := KW.out.2.2.2
       first | exact h.1 rfl | exact h.1 trivial | exact h | (simpa using h)
      exact ⟨i + 1, by omega, by go_num, take_next HR.out KW.out.2.1 (by rw [KW.out.2.2.1, e]), KW.out.1.trans pq.old⟩
     case measure => simp [intOf]; omega
   ·have KW := Lib.hid hk
    clear hk
    go_wp2_with fail
    go_ret
    refine ⟨ret_bool ?_, KW.out⟩
    symm
    rw [decide_eq_true_eq]
    have e := HR.out
    rw [List.take_of_length_le (by omega), List.take_of_length_le (by have := H.out.2.2; omega)] at e
    exact e

set_option maxRecDepth 100000 in
set_option maxHeartbeats 2000000 in
theorem equal_gaps_any (v v' : Value) (l m : List PGap) (w : World) (h : SeesR w 2 gapL v l) (h' : SeesR w 2 gapL v' m) :
  Calls Try.prog 65 #[v, v'] w fun e w' => e = .returned (.bool (decide (l = m))) ∧ Old w w' := by
 obtain ⟨p, c, rfl, hb1, hb2⟩ := h.len
 obtain ⟨p', c', rfl, _, _⟩ := h'.len
 have hmm : l.length ≤ 9223372036854775807 := by unfold maxLen at hb2; omega
 clear hb1 hb2
 by_cases hl : l.length = m.length
 case neg =>
  have hln : ((l.length : Int) != (m.length : Int)) = true := by rw [bne_iff_ne]; omega
  have HL := Lib.hid hl
  clear hl h h'
  go_enter Try.func65, Try.ntmps65
  go_wp2_with fail
  go_ret
  exact ⟨ret_bool (by symm; rw [decide_eq_false_iff_not]; intro e; exact HL.out (by rw [e])), Keeps.refl _ _⟩
 case pos =>
  have hln : ((l.length : Int) != (m.length : Int)) = false := by rw [hl]; simp
  have H := Lib.hid (And.intro h (And.intro h' hl))
  clear h h' hl
  go_enter Try.func65, Try.ntmps65
  go_wp2_with fail
  go_loopw [5, 13] (fun _ v13 wr => ∃ i : Nat, i ≤ l.length ∧ v13 = .int .i64 i ∧ l.take i = m.take i ∧ Old w wr) (fun _ v13 _ => l.length - (intOf v13).toNat)
  case atStart => exact ⟨0, by omega, rfl, rfl, Keeps.refl _ _⟩
  case round =>
   obtain ⟨i, hi, rfl, hr, hk⟩ := hrel
   have HR := Lib.hid hr
   clear hr
   by_cases hlt : i < l.length
   ·obtain ⟨b, o, cc, he, _, _, hc⟩ := H.out.1.at (by omega)
    obtain ⟨b', o', cc', he', _, _, hc'⟩ := H.out.2.1.at (by have := H.out.2.2; omega)
    simp only [Value.slice.injEq, true_and] at he he'
    obtain ⟨rfl, rfl⟩ := he
    obtain ⟨rfl, rfl⟩ := he'
    obtain ⟨x, hx⟩ : ∃ x, l[i]? = some x := ⟨_, List.getElem?_eq_getElem hlt⟩
    obtain ⟨y, hy⟩ : ∃ y, m[i]? = some y := ⟨_, List.getElem?_eq_getElem (by have := H.out.2.2; omega)⟩
    obtain ⟨xa, xb⟩ := x; obtain ⟨ya, yb⟩ := y
    have cx := fun j u (hu : (gapL (xa, xb))[j]? = some u) => OldOf.cell (hk.cell (hc i _ hx j u hu) (fun f => f))
    have cy := fun j u (hu : (gapL (ya, yb))[j]? = some u) => OldOf.cell (hk.cell (hc' i _ hy j u hu) (fun f => f))
    have x0 := cx 0 _ rfl
    have x1 := cx 1 _ rfl
    have y0 := cy 0 _ rfl
    have y1 := cy 1 _ rfl
    simp only [Nat.add_zero] at x0 y0
    have i1 : (0 : Int) ≤ (i : Int) := by omega
    have i2 : (i : Int) < (l.length : Int) := by omega
    have i3 : (i : Int) < (m.length : Int) := by have := H.out.2.2; omega
    have hNE := neq_gap (xa : Int) (ya : Int) (xb : Int) (yb : Int)
    have hxy : (((xa : Int) == (ya : Int)) && ((xb : Int) == (yb : Int))) = true ↔ (xa, xb) = (ya, yb) := by simp only [Bool.and_eq_true, beq_iff_eq, Prod.mk.injEq]; omega
    generalize (((xa : Int) == (ya : Int)) && ((xb : Int) == (yb : Int))) = zv at hNE hxy
    have KW := Lib.hid (And.intro hk (And.intro hx (And.intro hy hxy)))
    clear hx hy cx cy hc hc' hk hxy
    cases zv
    ·go_wp2_with fail
     refine wp_region_quiet_old (by kernel_rfl) (by kernel_rfl) ?_
     repeat (go_big_quiet_step ((fail)))
     refine wpQuiet_nil ?_
     intro _ hpq
     obtain ⟨pq, hpq'⟩ := hpq
     subst hpq'
     go_wp2_with fail
     go_ret
     refine ⟨ret_bool ?_, KW.out.1.trans pq.old⟩
     symm
     rw [decide_eq_false_iff_not]
     intro g
     have e := KW.out.2.1
     rw [g, KW.out.2.2.1, Option.some.injEq] at e
     have h2 := KW.out.2.2.2.2 e.symm
     simp at h2
    ·go_wp2_with fail
     refine wp_region_quiet_old (by kernel_rfl) (by kernel_rfl) ?_
     repeat (go_big_quiet_step ((fail)))
     refine wpQuiet_nil ?_
     intro _ hpq
     obtain ⟨pq, hpq'⟩ := hpq
     subst hpq'
     go_wp2_with fail
     go_roundw
     case rel =>
      have e := by
       have h := KW.out.2.2.2
       first | exact h.1 rfl | exact h.1 trivial | exact h | (simpa using h)
      exact ⟨i + 1, by omega, by go_num, take_next HR.out KW.out.2.1 (by rw [KW.out.2.2.1, e]), KW.out.1.trans pq.old⟩
     case measure => simp [intOf]; omega
   ·have KW := Lib.hid hk
    clear hk
    go_wp2_with fail
    go_ret
    refine ⟨ret_bool ?_, KW.out⟩
    symm
    rw [decide_eq_true_eq]
    have e := HR.out
    rw [List.take_of_length_le (by omega), List.take_of_length_le (by have := H.out.2.2; omega)] at e
    exact e

end Go.Proofs.Ytiednihagnehlaa

namespace Go.Proofs.Ytiednihagnehlaa
open Go.RowKit

theorem sameE_dec (k k' : ByteArray) (l m : List At) (h : (k.toList == k'.toList) = true) : sameE k l k' m = decide (l = m) := by
 rw [Bool.eq_iff_iff, sameE_iff, decide_eq_true_eq]
 have hk : k = k' := arr_ext (beq_iff_eq.1 h)
 exact ⟨fun h => h.2, fun h => ⟨hk, h⟩⟩

set_option maxRecDepth 100000 in
theorem ev_same_any (k k' : ByteArray) (v v' : Value) (l m : List At) (w : World) (h : SeesA w v l) (h' : SeesA w v' m) :
  Calls Try.prog 64 #[.agg #[.string k, v], .agg #[.string k', v']] w fun e w' => e = .returned (.bool (sameE k l k' m)) ∧ Old w w' := by
 obtain ⟨p, c, rfl, hb1, hb2⟩ := h.len
 obtain ⟨p', c', rfl, _, _⟩ := h'.len
 obtain ⟨W0, hW0⟩ : ∃ W0, (w.alloc (.cells #[.string k, .slice p l.length c] 33)).alloc (.cells #[.string k', .slice p' m.length c'] 33) = W0 := ⟨_, rfl⟩
 have k0 : Old w W0 := by rw [← hW0]; exact ((Keeps.refl _ _).alloc _).alloc _
 obtain ⟨b0, b1⟩ := two_blocks w (.cells #[.string k, .slice p l.length c] 33) (.cells #[.string k', .slice p' m.length c'] 33)
 rw [hW0] at b0 b1
 have g0 := blk2 b0
 have g1 := blk2 b1
 have C := Lib.hid (equal_attrs_any _ _ l m W0 (h.old k0) (h'.old k0))
 have K := Lib.hid k0
 clear h h' k0 b0 b1 hb1 hb2
 cases hkk : (k.toList == k'.toList)
 ·have hne : (k.toList == k'.toList) = false := hkk
  have HK := Lib.hid hkk
  clear hkk
  go_enter Try.func64, Try.ntmps64
  go_wp2_with fail
  go_ret
  exact ⟨ret_bool (by simp [sameE, HK.out]), K.out⟩
 ·have hne : (k.toList == k'.toList) = true := hkk
  have HK := Lib.hid (sameE_dec k k' l m hkk)
  clear hkk
  go_enter Try.func64, Try.ntmps64
  go_wp2_with fail
  refine C.out.mono ?_
  rintro e w1 ⟨rfl, k1⟩
  have K1 := Lib.hid (K.out.trans k1)
  clear k1 C
  go_wp2_with fail
  go_ret
  exact ⟨ret_bool HK.out.symm, K1.out⟩

set_option maxRecDepth 100000 in
theorem msg_same_item_any (x y : It) (w : World) (h : SeesA w x.av x.es) (h' : SeesA w y.av y.es) :
  Calls Try.prog 46 #[.agg x.cells.toArray, .agg y.cells.toArray] w fun e w' => e = .returned (.bool (sameI x.plain y.plain)) ∧ Old w w' := by
 have C := fun W (k : Old w W) => ev_same_any x.key y.key x.av y.av x.es y.es W (h.old k) (h'.old k)
 obtain ⟨n, tm, key, av, es⟩ := x
 obtain ⟨n', tm', key', av', es'⟩ := y
 obtain ⟨p, c, e1, _, _⟩ := h.len
 obtain ⟨p', c', e2, _, _⟩ := h'.len
 simp only at e1 e2
 subst e1 e2
 unfold It.cells It.plain sameI
 simp only at C ⊢
 generalize sameE key es key' es' = z at C ⊢
 have HC := Lib.hid C
 obtain ⟨W0, hW0⟩ : ∃ W0, (w.alloc (.cells #[.int .u64 n, .int .u64 tm, .string key, .slice p es.length c] 35)).alloc (.cells #[.int .u64 n', .int .u64 tm', .string key', .slice p' es'.length c'] 35) = W0 := ⟨_, rfl⟩
 have k0 : Old w W0 := by rw [← hW0]; exact ((Keeps.refl _ _).alloc _).alloc _
 obtain ⟨b0, b1⟩ := two_blocks w (.cells #[.int .u64 n, .int .u64 tm, .string key, .slice p es.length c] 35) (.cells #[.int .u64 n', .int .u64 tm', .string key', .slice p' es'.length c'] 35)
 rw [hW0] at b0 b1
 have g0 := blk4 b0
 have g1 := blk4 b1
 have K := Lib.hid k0
 clear k0 b0 b1 C h h'
 cases hn : (n == n')
 ·have hi : ((n : Int) == (n' : Int)) = false := by rw [beq_eq_false_iff_ne] at hn ⊢; omega
  clear hn
  go_enter Try.func46, Try.ntmps46
  go_wp2_with fail
  go_ret
  exact ⟨rfl, K.out⟩
 ·have hi : ((n : Int) == (n' : Int)) = true := by rw [beq_iff_eq] at hn ⊢; omega
  clear hn
  cases ht : (tm == tm')
  ·have hi2 : ((tm : Int) == (tm' : Int)) = false := by rw [beq_eq_false_iff_ne] at ht ⊢; omega
   clear ht
   go_enter Try.func46, Try.ntmps46
   go_wp2_with fail
   go_ret
   exact ⟨rfl, K.out⟩
  ·have hi2 : ((tm : Int) == (tm' : Int)) = true := by rw [beq_iff_eq] at ht ⊢; omega
   clear ht
   go_enter Try.func46, Try.ntmps46
   go_wp2_with fail
   refine (HC.out _ K.out).mono ?_
   rintro e w1 ⟨rfl, k1⟩
   have K1 := Lib.hid k1
   clear k1
   go_wp2_with fail
   go_ret
   exact ⟨rfl, K.out.trans K1.out⟩

instance : DecidableEq PIt := fun a b => if h : sameI a b = true then isTrue ((sameI_iff a b).1 h) else isFalse fun e => h ((sameI_iff a b).2 e)

set_option maxRecDepth 100000 in
set_option maxHeartbeats 4000000 in
theorem equal_items_any (v v' : Value) (l m : List It) (w : World) (h : SeesR w 4 It.cells v l) (h' : SeesR w 4 It.cells v' m) (hf : ∀ x ∈ l, SeesA w x.av x.es) (hf' : ∀ x ∈ m, SeesA w x.av x.es) :
  Calls Try.prog 66 #[v, v', .func (.func 46) #[] #[]] w fun e w' => e = .returned (.bool (decide (l.map It.plain = m.map It.plain))) ∧ Old w w' := by
 obtain ⟨p, c, rfl, hb1, hb2⟩ := h.len
 obtain ⟨p', c', rfl, _, _⟩ := h'.len
 have hmm : l.length ≤ 9223372036854775807 := by unfold maxLen at hb2; omega
 clear hb1 hb2
 by_cases hl : l.length = m.length
 case neg =>
  have hln : ((l.length : Int) != (m.length : Int)) = true := by rw [bne_iff_ne]; omega
  have HL := Lib.hid hl
  clear hl h h' hf hf'
  go_enter Try.func66, Try.ntmps66
  go_wp2_with fail
  go_ret
  exact ⟨ret_bool (by symm; rw [decide_eq_false_iff_not]; intro e; exact HL.out (by simpa using congrArg List.length e)), Keeps.refl _ _⟩
 have hln : ((l.length : Int) != (m.length : Int)) = false := by rw [hl]; simp
 have H := Lib.hid (And.intro h (And.intro h' (And.intro hl (And.intro hf hf'))))
 clear h h' hl hf hf'
 go_enter Try.func66, Try.ntmps66
 go_wp2_with fail
 go_loopw [7, 8, 9, 17] (fun _ _ _ v17 wr => ∃ i : Nat, i ≤ l.length ∧ v17 = .int .i64 i ∧ (l.map It.plain).take i = (m.map It.plain).take i ∧ Old w wr) (fun _ _ _ v17 _ => l.length - (intOf v17).toNat)
 case atStart => exact ⟨0, by omega, rfl, rfl, Keeps.refl _ _⟩
 case round =>
  obtain ⟨i, hi, rfl, hr, hk⟩ := hrel
  have HR := Lib.hid hr
  clear hr
  by_cases hlt : i < l.length
  ·obtain ⟨b, o, cc, he, _, _, hc⟩ := H.out.1.at (by omega)
   obtain ⟨b', o', cc', he', _, _, hc'⟩ := H.out.2.1.at (by have := H.out.2.2.1; omega)
   simp only [Value.slice.injEq, true_and] at he he'
   obtain ⟨rfl, rfl⟩ := he
   obtain ⟨rfl, rfl⟩ := he'
   obtain ⟨x, hx⟩ : ∃ x, l[i]? = some x := ⟨_, List.getElem?_eq_getElem hlt⟩
   obtain ⟨y, hy⟩ : ∃ y, m[i]? = some y := ⟨_, List.getElem?_eq_getElem (by have := H.out.2.2.1; omega)⟩
   have sx := (H.out.2.2.2.1 x (List.mem_of_getElem? hx)).old hk
   have sy := (H.out.2.2.2.2 y (List.mem_of_getElem? hy)).old hk
   have C := fun W (k : Old wr W) => msg_same_item_any x y W (sx.old k) (sy.old k)
   obtain ⟨xn, xt, xk, xv, xe⟩ := x
   obtain ⟨yn, yt, yk, yv, ye⟩ := y
   obtain ⟨q, d, e1, _, _⟩ := sx.len
   obtain ⟨q', d', e2, _, _⟩ := sy.len
   simp only at e1 e2
   subst e1 e2
   have cx := fun j u (hu : (It.cells ⟨xn, xt, xk, .slice q xe.length d, xe⟩)[j]? = some u) => hk.cell (hc i _ hx j u hu) (fun f => f)
   have cy := fun W (kw : Old wr W) j u (hu : (It.cells ⟨yn, yt, yk, .slice q' ye.length d', ye⟩)[j]? = some u) => (hk.trans kw).cell (hc' i _ hy j u hu) (fun f => f)
   have x0 := cx 0 _ rfl
   have x1 := cx 1 _ rfl
   have x2 := cx 2 _ rfl
   have x3 := cx 3 _ rfl
   simp only [Nat.add_zero] at x0
   unfold It.cells at C
   simp only at C
   have i1 : (0 : Int) ≤ (i : Int) := by omega
   have i2 : (i : Int) < (l.length : Int) := by omega
   have i3 : (i : Int) < (m.length : Int) := by have := H.out.2.2.1; omega
   obtain ⟨Wz, hWz⟩ : ∃ Wz, wr.alloc (.cells #[.int .u64 0, .int .u64 0, .string ⟨#[]⟩, .slice none 0 0] 35) = Wz := ⟨_, rfl⟩
   have kz : Old wr Wz := by rw [← hWz]; exact (Keeps.refl _ _).alloc _
   have bz : Wz.heap[wr.heap.size]? = some (.cells #[.int .u64 0, .int .u64 0, .string ⟨#[]⟩, .slice none 0 0] 35 (0, 0)) := by rw [← hWz]; exact heap_alloc_new _ _
   have gz := blk4 bz
   obtain ⟨W1, hW1⟩ : ∃ W1, (((Wz.setCell ⟨wr.heap.size, 0, none⟩ (.int .u64 xn)).setCell ⟨wr.heap.size, 1, none⟩ (.int .u64 xt)).setCell ⟨wr.heap.size, 2, none⟩ (.string xk)).setCell ⟨wr.heap.size, 3, none⟩ (.slice q xe.length d) = W1 := ⟨_, rfl⟩
   have k1 : Old wr W1 := by rw [← hW1]; exact kz.then (keep4 _ wr.heap.size) (fun i hi e => by omega)
   have b1 : W1.heap[wr.heap.size]? = some (.cells #[.int .u64 xn, .int .u64 xt, .string xk, .slice q xe.length d] 35 (0, 0)) := by rw [← hW1]; exact set4 bz
   have y0 := cy W1 k1 0 _ rfl
   have y1 := cy W1 k1 1 _ rfl
   have y2 := cy W1 k1 2 _ rfl
   have y3 := cy W1 k1 3 _ rfl
   simp only [Nat.add_zero] at y0
   obtain ⟨Wy, hWy⟩ : ∃ Wy, W1.alloc (.cells #[.int .u64 0, .int .u64 0, .string ⟨#[]⟩, .slice none 0 0] 35) = Wy := ⟨_, rfl⟩
   have ky : Old W1 Wy := by rw [← hWy]; exact (Keeps.refl _ _).alloc _
   have by' : Wy.heap[W1.heap.size]? = some (.cells #[.int .u64 0, .int .u64 0, .string ⟨#[]⟩, .slice none 0 0] 35 (0, 0)) := by rw [← hWy]; exact heap_alloc_new _ _
   have gy := blk4 by'
   obtain ⟨W2, hW2⟩ : ∃ W2, (((Wy.setCell ⟨W1.heap.size, 0, none⟩ (.int .u64 yn)).setCell ⟨W1.heap.size, 1, none⟩ (.int .u64 yt)).setCell ⟨W1.heap.size, 2, none⟩ (.string yk)).setCell ⟨W1.heap.size, 3, none⟩ (.slice q' ye.length d') = W2 := ⟨_, rfl⟩
   have k2 : Old W1 W2 := by rw [← hW2]; exact ky.then (keep4 _ W1.heap.size) (fun i hi e => by omega)
   have b2 : W2.heap[W1.heap.size]? = some (.cells #[.int .u64 yn, .int .u64 yt, .string yk, .slice q' ye.length d'] 35 (0, 0)) := by rw [← hW2]; exact set4 by'
   have b12 := (k2.block _ (lt_of_heap b1) (fun f => f)).trans b1
   have g1 := blk4 b12
   have g2 := blk4 b2
   have HC := Lib.hid (C W2 (k1.trans k2))
   have HW1 := Lib.hid hW1
   have HW2 := Lib.hid hW2
   have KW := Lib.hid (And.intro (hk.trans (k1.trans k2)) (And.intro hx hy))
   clear cx cy hc hc' hk C kz bz k1 b1 ky by' k2 b2 b12 hx hy sx sy hW1 hW2
   go_upto_region 6 with fail
   try rw [HW1.out]
   clear x0 x1 x2 x3 hWz
   go_upto_region 7 with fail
   try rw [HW2.out]
   clear y0 y1 y2 y3 hWy gz gy
   obtain ⟨zv, hzv⟩ : ∃ z, sameI (It.plain ⟨xn, xt, xk, .slice q xe.length d, xe⟩) (It.plain ⟨yn, yt, yk, .slice q' ye.length d', ye⟩) = z := ⟨_, rfl⟩
   rw [hzv] at HC
   have HZ := Lib.hid hzv
   clear hzv
   go_wp2_with fail
   refine HC.out.mono ?_
   rintro e w3 ⟨rfl, k3⟩
   have K3 := Lib.hid (KW.out.1.trans k3)
   clear k3 HC
   cases zv
   ·go_wp2_with fail
    go_ret
    refine ⟨ret_bool ?_, K3.out⟩
    symm
    rw [decide_eq_false_iff_not]
    intro g
    have e := congrArg (fun l => l[i]?) g
    simp only [List.getElem?_map, KW.out.2.1, KW.out.2.2, Option.map_some, Option.some.injEq] at e
    have := (sameI_iff _ _).2 e
    rw [HZ.out] at this
    cases this
   ·go_wp2_with fail
    go_roundw
    case rel => exact ⟨i + 1, by omega, by go_num, take_next HR.out (x := It.plain ⟨xn, xt, xk, .slice q xe.length d, xe⟩) (by rw [List.getElem?_map, KW.out.2.1]; rfl) (by rw [List.getElem?_map, KW.out.2.2, (sameI_iff _ _).1 HZ.out]; rfl), K3.out⟩
    case measure => simp [intOf]; omega
  ·have KW := Lib.hid hk
   clear hk
   go_wp2_with fail
   go_ret
   refine ⟨ret_bool ?_, KW.out⟩
   symm
   rw [decide_eq_true_eq]
   have e := HR.out
   rw [List.take_of_length_le (by simp; omega), List.take_of_length_le (by have := H.out.2.2.1; simp; omega)] at e
   exact e
end Go.Proofs.Ytiednihagnehlaa
