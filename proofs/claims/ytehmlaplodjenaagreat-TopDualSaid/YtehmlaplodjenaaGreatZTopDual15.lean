/- DERIVED. cover: Of. -/
import Derived.Test.YtehmlaplodjenaaGreatZTopDual05
import Derived.Test.YtehmlaplodjenaaGreatZTopDual14
import Derived.Test.YtehmlaplodjenaaGreatYpTopDual04
import Derived.Deep.DeepCutAuto
set_option maxRecDepth 100000
set_option maxHeartbeats 4000000
namespace Go.Proofs.YtehmlaplodjenaaGreat
section
open Go.RowKit
theorem putG {w : World} {b : Nat} {x1 x4 x7 y1 y4 y7 : Option Addr} {x2 x3 x5 x6 x8 x9 y2 y3 y5 y6 y8 y9 : Nat} {od : Bool} {r : Rg} (h : w.heap[b]? = some (.cells #[.slice y1 y2 y3, .slice y4 y5 y6, .slice y7 y8 y9, .bool od] 102 (0, 0)))
  (SS : SeesR w 4 spanL (.slice x1 x2 x3) r.a ∧ SeesR w 4 spanL (.slice x4 x5 x6) r.b ∧ SeesR w 4 spanL (.slice x7 x8 x9) r.c) :
  ((((w.setCell ⟨b, 0, none⟩ (.slice x1 x2 x3)).setCell ⟨b, 1, none⟩ (.slice x4 x5 x6)).setCell ⟨b, 2, none⟩ (.slice x7 x8 x9)).setCell ⟨b, 3, none⟩ (.bool r.odd)).heap[b]? = some (.cells #[.slice x1 x2 x3, .slice x4 x5 x6, .slice x7 x8 x9, .bool r.odd] 102 (0, 0)) ∧
  SeesG ((((w.setCell ⟨b, 0, none⟩ (.slice x1 x2 x3)).setCell ⟨b, 1, none⟩ (.slice x4 x5 x6)).setCell ⟨b, 2, none⟩ (.slice x7 x8 x9)).setCell ⟨b, 3, none⟩ (.bool r.odd)) (.agg #[.slice x1 x2 x3, .slice x4 x5 x6, .slice x7 x8 x9, .bool r.odd]) r ∧
  Keeps (fun k => k = b) w ((((w.setCell ⟨b, 0, none⟩ (.slice x1 x2 x3)).setCell ⟨b, 1, none⟩ (.slice x4 x5 x6)).setCell ⟨b, 2, none⟩ (.slice x7 x8 x9)).setCell ⟨b, 3, none⟩ (.bool r.odd)) := by
 have k4 := keep44 w b (.slice x1 x2 x3) (.slice x4 x5 x6) (.slice x7 x8 x9) (.bool r.odd)
 exact ⟨put4r h _ _ _ _, ⟨_, _, _, _, _, _, _, _, _, rfl, SS.1.keepsN k4 (fun hl b e f => reg_ne h SS.1 hl b e f), SS.2.1.keepsN k4 (fun hl b e f => reg_ne h SS.2.1 hl b e f), SS.2.2.keepsN k4 (fun hl b e f => reg_ne h SS.2.2 hl b e f)⟩, k4⟩
theorem val_small {v : Val} (h : v.ok = true) : v.str.size ≤ 1000 := by
 have hl : v.str.toList.length = v.str.size := by rw [ByteArray.toList_eq]; simp
 unfold Val.ok at h
 split at h
 ·simp at h; rw [← hl, h.1]; simp
 ·split at h
  ·simp at h; omega
  ·simp at h; rw [← hl, h.2]; simp
def GB (b : Nat) (r : Rg) (W : World) : Prop :=
 ∃ x1 x2 x3 x4 x5 x6 x7 x8 x9, W.heap[b]? = some (.cells #[.slice x1 x2 x3, .slice x4 x5 x6, .slice x7 x8 x9, .bool r.odd] 102 (0, 0)) ∧
  SeesR W 4 spanL (.slice x1 x2 x3) r.a ∧ SeesR W 4 spanL (.slice x4 x5 x6) r.b ∧ SeesR W 4 spanL (.slice x7 x8 x9) r.c
theorem GB.to {b : Nat} {r : Rg} {W W' : World} (h : GB b r W) (k : Old W W') : GB b r W' := by
 obtain ⟨x1, x2, x3, x4, x5, x6, x7, x8, x9, e, h1, h2, h3⟩ := h
 exact ⟨x1, x2, x3, x4, x5, x6, x7, x8, x9, (k.block _ (lt_of_heap e) (fun f => f)).trans e, h1.old k, h2.old k, h3.old k⟩
theorem GB.put {b : Nat} {r r0 : Rg} {W : World} (h : GB b r0 W) {x1 x4 x7 : Option Addr} {x2 x3 x5 x6 x8 x9 : Nat}
  (SS : SeesR W 4 spanL (.slice x1 x2 x3) r.a ∧ SeesR W 4 spanL (.slice x4 x5 x6) r.b ∧ SeesR W 4 spanL (.slice x7 x8 x9) r.c) :
  GB b r ((((W.setCell ⟨b, 0, none⟩ (.slice x1 x2 x3)).setCell ⟨b, 1, none⟩ (.slice x4 x5 x6)).setCell ⟨b, 2, none⟩ (.slice x7 x8 x9)).setCell ⟨b, 3, none⟩ (.bool r.odd)) ∧
  Keeps (fun k => k = b) W ((((W.setCell ⟨b, 0, none⟩ (.slice x1 x2 x3)).setCell ⟨b, 1, none⟩ (.slice x4 x5 x6)).setCell ⟨b, 2, none⟩ (.slice x7 x8 x9)).setCell ⟨b, 3, none⟩ (.bool r.odd)) := by
 obtain ⟨y1, y2, y3, y4, y5, y6, y7, y8, y9, e, _⟩ := h
 obtain ⟨F, ⟨_, _, _, _, _, _, _, _, _, e9, S1, S2, S3⟩, K⟩ := putG e SS
 simp only [Value.agg.injEq, Array.mk.injEq, List.cons.injEq, and_true] at e9
 obtain ⟨e1, e2, e3⟩ := e9
 rw [← e1] at S1
 rw [← e2] at S2
 rw [← e3] at S3
 exact ⟨⟨_, _, _, _, _, _, _, _, _, F, S1, S2, S3⟩, K⟩
theorem GB.keep {b b' : Nat} {r : Rg} {W W' : World} {p0 p1 p2 : Option Addr} {n0 c0 n1 c1 n2 c2 : Nat} {od : Bool} {t : TypeId} (h : GB b r W) (h' : W.heap[b']? = some (.cells #[.slice p0 n0 c0, .slice p1 n1 c1, .slice p2 n2 c2, .bool od] t (0, 0))) (hne : b ≠ b') (hk : Keeps (fun k => k = b') W W') : GB b r W' := by
 obtain ⟨x1, x2, x3, x4, x5, x6, x7, x8, x9, e, h1, h2, h3⟩ := h
 exact ⟨x1, x2, x3, x4, x5, x6, x7, x8, x9, (hk.block _ (lt_of_heap e) hne).trans e, h1.keepsN hk (fun hl b e f => reg_ne h' h1 hl b e f), h2.keepsN hk (fun hl b e f => reg_ne h' h2 hl b e f), h3.keepsN hk (fun hl b e f => reg_ne h' h3 hl b e f)⟩
theorem restR_take {set : List Val} {r : Rg} {i : Nat} {v : Val} (h : set[i]? = some v) : restR (set.take (i + 1)) r = minusR (restR (set.take i) r) (oneR v.kind (ofL (eqC v))) := by
 unfold restR
 rw [List.take_add_one, h, List.foldl_append]
 rfl
theorem GB.one {b k : Nat} {W : World} (h : W.heap[b]? = some (.cells #[.slice none 0 0, .slice none 0 0, .slice none 0 0, .bool false] 102 (0, 0))) {p : Option Addr} {n c : Nat} {l : List Span} (hs : SeesR W 4 spanL (.slice p n c) l) (hk : k = 1 ∨ k = 2 ∨ k = 3) : GB b (oneR k l) (W.setCell ⟨b, k - 1, none⟩ (.slice p n c)) := by
 have e1 := heap_setCell_same W b (k - 1) _ _ (.slice p n c) h
 have s1 := hs.put_reg h (k - 1) (.slice p n c)
 rcases hk with rfl | rfl | rfl
 ·exact ⟨p, n, c, none, 0, 0, none, 0, 0, by simpa [oneR] using e1, s1, SeesR.nil _, SeesR.nil _⟩
 ·exact ⟨none, 0, 0, p, n, c, none, 0, 0, by simpa [oneR] using e1, SeesR.nil _, s1, SeesR.nil _⟩
 ·exact ⟨none, 0, 0, none, 0, 0, p, n, c, by simpa [oneR] using e1, SeesR.nil _, SeesR.nil _, s1⟩
theorem Of_any (x : Con) (w : World) (hs : SeesV w x.sv x.set) (hok : conOk x = true) (hp : ConP x.plain) :
  Calls Tryz.prog 87 #[.agg x.cells.toArray] w fun e w' => ∃ v, e = .returned (.tuple #[v, .int .i64 0]) ∧ SeesG w' v (OfR x.plain) ∧ Old w w' := by
 have MC := Lib.hid (fun W hW => may_cons_any x W (hs.old (w := w) hW))
 obtain ⟨nm, op, ⟨ck, cn, cs, cb⟩, sv, set⟩ := x
 obtain ⟨p, cc, e9, _, _⟩ := hs.len
 simp only at e9
 subst e9
 have H := Lib.hid (And.intro hs (And.intro hok hp))
 clear hs hp hok
 simp only [Con.cells] at MC ⊢
 obtain ⟨W1, hW1⟩ : ∃ W1, ((w.alloc (.cells #[.string nm, .int .i64 op, .int .i64 ck, .int .i64 cn, .string cs, .bool cb, .slice p set.length cc] 78)).alloc (.cells #[.slice none 0 0, .slice none 0 0, .slice none 0 0, .bool false] 102)).alloc (.cells #[.slice none 0 0, .slice none 0 0, .slice none 0 0, .bool false] 102) = W1 := ⟨_, rfl⟩
 have o1 : Old w W1 := by rw [← hW1]; exact (((Keeps.refl _ _).alloc _).alloc _).alloc _
 obtain ⟨b1, b2, b3, z1⟩ := three_blocks w (.cells #[.string nm, .int .i64 op, .int .i64 ck, .int .i64 cn, .string cs, .bool cb, .slice p set.length cc] 78) (.cells #[.slice none 0 0, .slice none 0 0, .slice none 0 0, .bool false] 102) (.cells #[.slice none 0 0, .slice none 0 0, .slice none 0 0, .bool false] 102)
 rw [hW1] at b1 b2 b3 z1
 have O1 := Lib.hid (And.intro o1 (And.intro b1 (And.intro b2 b3)))
 have q1 := blk7 b1
 clear o1 b1 b2 b3 z1
 go_enter Tryz.func87, Tryz.ntmps87
 go_upto_region 2 with fail
 clear hW1
 go_wp2_with fail
 refine (MC.out W1 O1.out.1).mono ?_
 rintro e W2 ⟨rfl, k2⟩
 have B := Lib.hid (And.intro ((k2.block _ (lt_of_heap O1.out.2.1) (fun f => f)).trans O1.out.2.1) (And.intro ((k2.block _ (lt_of_heap O1.out.2.2.1) (fun f => f)).trans O1.out.2.2.1) (And.intro ((k2.block _ (lt_of_heap O1.out.2.2.2) (fun f => f)).trans O1.out.2.2.2) (O1.out.1.trans k2))))
 clear k2 q1
 rw [H.out.2.1]
 have q1 := blk7 B.out.1
 by_cases h1 : op = 1
 ·subst h1
  go_wp2_with fail
  refine (All_any _).mono ?_
  rintro e W3 ⟨v3, rfl, g3, k3⟩
  have rb := (k3.block _ (lt_of_heap B.out.2.1) (fun f => f)).trans B.out.2.1
  have E := Lib.hid (And.intro rb (And.intro g3 (B.out.2.2.2.trans k3)))
  obtain ⟨x1, x2, x3, x4, x5, x6, x7, x8, x9, rfl, SS⟩ := g3
  clear k3 q1
  have q8 := blk4 rb
  clear rb
  go_wp2_with fail
  obtain ⟨F, gF, kF⟩ := putG E.out.1 SS
  obtain ⟨W9, hW9⟩ : ∃ W9, (((W3.setCell ⟨w.heap.size + 1, 0, none⟩ (.slice x1 x2 x3)).setCell ⟨w.heap.size + 1, 1, none⟩ (.slice x4 x5 x6)).setCell ⟨w.heap.size + 1, 2, none⟩ (.slice x7 x8 x9)).setCell ⟨w.heap.size + 1, 3, none⟩ (.bool allR.odd) = W9 := ⟨_, rfl⟩
  rw [hW9] at F gF kF ⊢
  have F4 := blk4 F
  exact bodyPost_ret (v := .tuple #[.agg #[.slice x1 x2 x3, .slice x4 x5 x6, .slice x7 x8 x9, .bool allR.odd], .int .i64 0]) (by simp [results, Tryz.results87, go_sem, F4]) rfl ⟨_, rfl, gF, E.out.2.2.then kF (fun i hi e => absurd (show i = w.heap.size + 1 from e) (by omega))⟩
 ·by_cases h9 : op = 9
  ·subst h9
   obtain ⟨hsl, hset⟩ := H.out.2.2.set rfl
   simp only [Con.plain] at hsl hset
   have HS := Lib.hid hset
   clear hset
   go_wp2_with fail
   refine (All_any _).mono ?_
   rintro e W3 ⟨v3, rfl, g3, k3⟩
   obtain ⟨x1, x2, x3, x4, x5, x6, x7, x8, x9, rfl, SS⟩ := g3
   obtain ⟨W4, hW4⟩ : ∃ W4, W3.alloc (.cells #[.slice x1 x2 x3, .slice x4 x5 x6, .slice x7 x8 x9, .bool allR.odd] 102) = W4 := ⟨_, rfl⟩
   have o4 : Old W3 W4 := by rw [← hW4]; exact (Keeps.refl _ _).alloc _
   have b4 : W4.heap[W3.heap.size]? = some (.cells #[.slice x1 x2 x3, .slice x4 x5 x6, .slice x7 x8 x9, .bool allR.odd] 102 (0, 0)) := by rw [← hW4]; exact heap_alloc_new _ _
   have k4 := k3.trans o4
   obtain ⟨b5, hb5⟩ : ∃ b5, W3.heap.size = b5 := ⟨_, rfl⟩
   rw [hb5] at b4
   have rc := (k4.block _ (lt_of_heap B.out.1) (fun f => f)).trans B.out.1
   have hlt5 : w.heap.size + 1 + 1 < b5 := by have h1 := lt_of_heap B.out.2.2.1; have h2 := k3.size; omega
   have D := Lib.hid (And.intro (B.out.2.2.2.trans k4) (And.intro ((k4.block _ (lt_of_heap B.out.2.1) (fun f => f)).trans B.out.2.1) (And.intro ((k4.block _ (lt_of_heap B.out.2.2.1) (fun f => f)).trans B.out.2.2.1) (And.intro (show GB b5 allR W4 from ⟨_, _, _, _, _, _, _, _, _, b4, SS.1.old o4, SS.2.1.old o4, SS.2.2.old o4⟩) hlt5))))
   have HB5 := Lib.hid hb5
   have q1 := blk7 rc
   have hs9 : set.length ≤ 9223372036854775807 := by omega
   clear k3 k4 o4 b4 SS rc hlt5
   go_upto_region 9 with fail
   clear hW4 q1
   try simp only [HB5.out]
   clear hb5 HB5
   go_loopw [27] (fun v27 wr => ∃ i : Nat, i ≤ set.length ∧ v27 = .int .i64 i ∧ GB b5 (restR (set.take i) allR) wr ∧ Keeps (fun k => k = b5) W4 wr) (fun v27 _ => set.length - (intOf v27).toNat)
   case atStart => exact ⟨0, Nat.zero_le _, rfl, D.out.2.2.2.1, Keeps.refl _ _⟩
   case round =>
    obtain ⟨wq, hwq⟩ : ∃ wq : World, wq = wr := ⟨_, rfl⟩
    subst hwq
    obtain ⟨i, hi, rfl, hg, hk⟩ := hrel
    have ow : Old w wq := D.out.1.then hk (fun j hj e => absurd (show j = b5 from e) (by have := D.out.2.2.2.2; omega))
    have hokA : (restR (set.take i) allR).ok 17 := (restR_ok (set.take i) allR 1 (fun y hy => HS.out y (List.mem_of_mem_take hy)) allR_ok).le (by rw [List.length_take]; omega)
    by_cases hlt : i < set.length
    ·obtain ⟨b, o, cp, he, _, _, hc⟩ := H.out.1.at (by omega)
     simp only [Value.slice.injEq, true_and] at he
     obtain ⟨rfl, rfl⟩ := he
     obtain ⟨y, hy⟩ : ∃ y, set[i]? = some y := ⟨_, List.getElem?_eq_getElem hlt⟩
     have hyo := HS.out y (List.mem_of_getElem? hy)
     have hnx := restR_take (r := allR) hy
     have hok2 : (oneR y.kind (ofL (eqC y))).ok 2 := oneR_ok (ofL_rise (c := eqC y) (fun _ _ => hyo) (by show (2 : Int) ≤ 2; decide) (by show (2 : Int) ≤ 8; decide)).1 (ofL_rise (c := eqC y) (fun _ _ => hyo) (by show (2 : Int) ≤ 2; decide) (by show (2 : Int) ≤ 8; decide)).2
     obtain ⟨cur, hcur⟩ : ∃ cur, restR (set.take i) allR = cur := ⟨_, rfl⟩
     rw [hcur] at hg hokA hnx
     clear hcur
     have x0 := ow.cell (hc i _ hy 0 _ rfl) (fun f => f)
     have x1 := ow.cell (hc i _ hy 1 _ rfl) (fun f => f)
     have x2 := ow.cell (hc i _ hy 2 _ rfl) (fun f => f)
     have x3 := ow.cell (hc i _ hy 3 _ rfl) (fun f => f)
     simp only [Nat.add_zero] at x0
     have hsz : y.str.size ≤ 1000 := val_small hyo.1
     have kd := kinds hyo.1
     have OF := Lib.hid (fun W => of_any ⟨⟨#[]⟩, 2, y, .slice none 0 0, []⟩ W hyo.2 hsz ⟨_, _, _, rfl⟩)
     simp only [Con.cells] at OF
     have hpl : (⟨⟨#[]⟩, 2, y, .slice none 0 0, []⟩ : Con).plain = eqC y := rfl
     rw [hpl] at OF
     clear hpl hsz
     generalize hL : ofL (eqC y) = L at OF hok2 hnx
     clear hL
     obtain ⟨W5, hW5⟩ : ∃ W5, (wq.alloc (.cells #[.int .i64 y.kind, .int .i64 y.num, .string y.str, .bool y.is] 61)).alloc (.cells #[.slice none 0 0, .slice none 0 0, .slice none 0 0, .bool false] 102) = W5 := ⟨_, rfl⟩
     have o5 : Old wq W5 := by rw [← hW5]; exact ((Keeps.refl _ _).alloc _).alloc _
     obtain ⟨b7, b8⟩ := two_blocks wq (.cells #[.int .i64 y.kind, .int .i64 y.num, .string y.str, .bool y.is] 61) (.cells #[.slice none 0 0, .slice none 0 0, .slice none 0 0, .bool false] 102)
     rw [hW5] at b7 b8
     have rd0 : W5.drew.heap[wq.heap.size]? = some (.cells #[.int .i64 y.kind, .int .i64 y.num, .string y.str, .bool y.is] 61 (0, 0)) := b7
     obtain ⟨⟨y1, y2, y3, y4, y5, y6, y7, y8, y9, e9, _⟩⟩ : Nonempty (∃ y1 y2 y3 y4 y5 y6 y7 y8 y9, wq.heap[b5]? = some (.cells #[.slice y1 y2 y3, .slice y4 y5 y6, .slice y7 y8 y9, .bool cur.odd] 102 (0, 0)) ∧ True) := ⟨by obtain ⟨y1, y2, y3, y4, y5, y6, y7, y8, y9, e, _⟩ := hg; exact ⟨y1, y2, y3, y4, y5, y6, y7, y8, y9, e, trivial⟩⟩
     have hb5q : b5 < wq.heap.size := lt_of_heap e9
     clear e9
     have G := Lib.hid (And.intro (hg.to o5) (And.intro (hk.then o5 (fun _ _ f => f.elim)) (And.intro o5 (And.intro b8 (And.intro hok2 (And.intro hokA (And.intro hnx (And.intro hb5q hk.size))))))))
     clear hg hk ow hc hy hyo hok2 hokA hnx o5 b7 b8
     obtain ⟨yk, yn, ys, yb⟩ := y
     simp only at *
     rcases kd with rfl | rfl | rfl
     ·have hwr : IntKind.i64.wrap 0 = 0 := by decide
      go_upto_region 12 with fail
      clear x0 x1 x2 x3 hW5
      refine wp_region_g (S := fun W => W.heap[wq.heap.size]? = some (.cells #[.int .i64 1, .int .i64 yn, .string ys, .bool yb] 61 (0, 0))) (M := [0, 1, 2, 3, 4, 5, 6, 7, 8]) (by kernel_rfl) ?_
      refine tkG (i := 6) (v := ?vn1t6) ?yn1t6 rd0 ?rn1t6
      case yn1t6 => (intro W hSw; go_simp; try with_reducible rfl)
      try simp only [Act.put, List.setIfInBounds_toArray, List.set_cons_zero, List.set_cons_succ]
      refine tkG (i := 0) (v := ?vn1t0) ?yn1t0 rd0 ?rn1t0
      case yn1t0 => (intro W hSw; go_simp; try with_reducible rfl)
      try simp only [Act.put, List.setIfInBounds_toArray, List.set_cons_zero, List.set_cons_succ]
      refine tkG (i := 1) (v := ?vn1t1) ?yn1t1 rd0 ?rn1t1
      case yn1t1 => (intro W hSw; have q3 := blk4 hSw; go_simp; try with_reducible rfl)
      try simp only [Act.put, List.setIfInBounds_toArray, List.set_cons_zero, List.set_cons_succ]
      refine tkG (i := 2) (v := ?vn1t2) ?yn1t2 rd0 ?rn1t2
      case yn1t2 => (intro W hSw; go_simp; try with_reducible rfl)
      try simp only [Act.put, List.setIfInBounds_toArray, List.set_cons_zero, List.set_cons_succ]
      refine tkG (i := 3) (v := ?vn1t3) ?yn1t3 rd0 ?rn1t3
      case yn1t3 => (intro W hSw; have q3 := blk4 hSw; go_simp; try with_reducible rfl)
      try simp only [Act.put, List.setIfInBounds_toArray, List.set_cons_zero, List.set_cons_succ]
      refine tkG (i := 4) (v := ?vn1t4) ?yn1t4 rd0 ?rn1t4
      case yn1t4 => (intro W hSw; go_simp; try with_reducible rfl)
      try simp only [Act.put, List.setIfInBounds_toArray, List.set_cons_zero, List.set_cons_succ]
      refine wpAnyG_onlyL (i := 5) (o := _) (by kernel_rfl) rfl (fun K hK => ?_)
      go_simp
      refine (OF.out _).mono ?_
      rintro e w6 ⟨p4, n4, c4, rfl, s4, k6⟩
      have hD6 := (k6.block _ (lt_of_heap rd0) (fun f => f)).trans rd0
      have k6' : Old W5 w6 := (Keeps.refl (fun _ => False) W5).drew.trans k6
      have r8 := (k6'.block _ (lt_of_heap G.out.2.2.2.1) (fun f => f)).trans G.out.2.2.2.1
      have k7 := keepV w6 (wq.heap.size + 1) 0 (.slice p4 n4 c4)
      have g8 := GB.one (k := 1) r8 s4 (by omega)
      have g7 := (G.out.1.to k6').keep r8 (by have := G.out.2.2.2.2.2.2.2.1; omega) k7
      have E := Lib.hid (And.intro g7 (And.intro g8 ((G.out.2.1.then k6' (fun _ _ f => f.elim)).then k7 (fun i hi e => absurd (show i = wq.heap.size + 1 from e) (by have := G.out.2.2.2.2.2.2.2.2; omega)))))
      have q8 := blk4 r8
      clear k6 k6' s4 r8 g8 g7
      go_wp2_with fail
      refine hK.out _ _ (fun _ => hD6) ?_
      clear hK K
      try simp only [Act.put, List.setIfInBounds_toArray, List.set_cons_zero, List.set_cons_succ]
      refine wpAnyG_onlyL (i := 7) (o := _) (by kernel_rfl) rfl (fun K hK => ?_)
      go_simp
      refine hK.out _ _ (fun _ => hD6) ?_
      clear hK K
      try simp only [Act.put, List.setIfInBounds_toArray, List.set_cons_zero, List.set_cons_succ]
      refine wpAnyG_onlyL (i := 8) (o := _) (by kernel_rfl) rfl (fun K hK => ?_)
      go_simp
      refine hK.out _ _ (fun _ => (k7.block _ (lt_of_heap hD6) (by omega)).trans hD6) ?_
      clear hK K
      try simp only [Act.put, List.setIfInBounds_toArray, List.set_cons_zero, List.set_cons_succ]
      refine wpAnyG_done (by kernel_rfl) ?_ _
      go_simp
      obtain ⟨w7, hw7⟩ : ∃ w7, w6.setCell ⟨wq.heap.size + 1, 0, none⟩ (.slice p4 n4 c4) = w7 := ⟨_, rfl⟩
      have E7 := E.out
      have hj : (1 - 1 : Nat) = 0 := by decide
      rw [hj, hw7] at E7
      rw [hw7]
      have V := Lib.hid E7
      obtain ⟨⟨u1, u2, u3, u4, u5, u6, u7, u8, u9, e5, CC⟩, ⟨d1, d2, d3, d4, d5, d6, d7, d8, d9, e8, DD⟩, _⟩ := E7
      have CS := Lib.hid (show SeesG w7 (.agg #[.slice u1 u2 u3, .slice u4 u5 u6, .slice u7 u8 u9, .bool cur.odd]) cur from ⟨_, _, _, _, _, _, _, _, _, rfl, CC⟩)
      have DS := Lib.hid (show SeesG w7 (.agg #[.slice d1 d2 d3, .slice d4 d5 d6, .slice d7 d8 d9, .bool (oneR 1 L).odd]) (oneR 1 L) from ⟨_, _, _, _, _, _, _, _, _, rfl, DD⟩)
      have q5 := blk4 e5
      have q6 := blk4 e8
      clear q8 E hw7 k7 hD6 e5 e8 CC DD rd0 hj
      go_wp2_with fail
      refine (Minus_any _ _ cur (oneR 1 L) 17 2 _ CS.out DS.out G.out.2.2.2.2.2.1 G.out.2.2.2.2.1 (by omega)).mono ?_
      rintro e w8 ⟨v8, rfl, g8, k8⟩
      obtain ⟨t1, t2, t3, t4, t5, t6, t7, t8, t9, rfl, TS⟩ := g8
      have g9 := V.out.1.to k8
      obtain ⟨P, KP⟩ := g9.put TS
      have U := Lib.hid (And.intro P ((V.out.2.2.then k8 (fun _ _ f => f.elim)).then KP (fun i hi e => e)))
      obtain ⟨_, _, _, _, _, _, _, _, _, e9, _⟩ := g9
      have q9 := blk4 e9
      clear k8 e9 P KP q5 q6 TS
      go_wp2_with fail
      go_roundw
      case rel => exact ⟨i + 1, by omega, by go_num, by rw [G.out.2.2.2.2.2.2.1]; exact U.out.1, U.out.2⟩
      case measure => simp [intOf]; omega
     ·have hwr : IntKind.i64.wrap 1 = 1 := by decide
      go_upto_region 12 with fail
      clear x0 x1 x2 x3 hW5
      refine wp_region_g (S := fun W => W.heap[wq.heap.size]? = some (.cells #[.int .i64 2, .int .i64 yn, .string ys, .bool yb] 61 (0, 0))) (M := [0, 1, 2, 3, 4, 5, 6, 7, 8]) (by kernel_rfl) ?_
      refine tkG (i := 6) (v := ?vn2t6) ?yn2t6 rd0 ?rn2t6
      case yn2t6 => (intro W hSw; go_simp; try with_reducible rfl)
      try simp only [Act.put, List.setIfInBounds_toArray, List.set_cons_zero, List.set_cons_succ]
      refine tkG (i := 0) (v := ?vn2t0) ?yn2t0 rd0 ?rn2t0
      case yn2t0 => (intro W hSw; go_simp; try with_reducible rfl)
      try simp only [Act.put, List.setIfInBounds_toArray, List.set_cons_zero, List.set_cons_succ]
      refine tkG (i := 1) (v := ?vn2t1) ?yn2t1 rd0 ?rn2t1
      case yn2t1 => (intro W hSw; have q3 := blk4 hSw; go_simp; try with_reducible rfl)
      try simp only [Act.put, List.setIfInBounds_toArray, List.set_cons_zero, List.set_cons_succ]
      refine tkG (i := 2) (v := ?vn2t2) ?yn2t2 rd0 ?rn2t2
      case yn2t2 => (intro W hSw; go_simp; try with_reducible rfl)
      try simp only [Act.put, List.setIfInBounds_toArray, List.set_cons_zero, List.set_cons_succ]
      refine tkG (i := 3) (v := ?vn2t3) ?yn2t3 rd0 ?rn2t3
      case yn2t3 => (intro W hSw; have q3 := blk4 hSw; go_simp; try with_reducible rfl)
      try simp only [Act.put, List.setIfInBounds_toArray, List.set_cons_zero, List.set_cons_succ]
      refine tkG (i := 4) (v := ?vn2t4) ?yn2t4 rd0 ?rn2t4
      case yn2t4 => (intro W hSw; go_simp; try with_reducible rfl)
      try simp only [Act.put, List.setIfInBounds_toArray, List.set_cons_zero, List.set_cons_succ]
      refine wpAnyG_onlyL (i := 5) (o := _) (by kernel_rfl) rfl (fun K hK => ?_)
      go_simp
      refine (OF.out _).mono ?_
      rintro e w6 ⟨p4, n4, c4, rfl, s4, k6⟩
      have hD6 := (k6.block _ (lt_of_heap rd0) (fun f => f)).trans rd0
      have k6' : Old W5 w6 := (Keeps.refl (fun _ => False) W5).drew.trans k6
      have r8 := (k6'.block _ (lt_of_heap G.out.2.2.2.1) (fun f => f)).trans G.out.2.2.2.1
      have k7 := keepV w6 (wq.heap.size + 1) 1 (.slice p4 n4 c4)
      have g8 := GB.one (k := 2) r8 s4 (by omega)
      have g7 := (G.out.1.to k6').keep r8 (by have := G.out.2.2.2.2.2.2.2.1; omega) k7
      have E := Lib.hid (And.intro g7 (And.intro g8 ((G.out.2.1.then k6' (fun _ _ f => f.elim)).then k7 (fun i hi e => absurd (show i = wq.heap.size + 1 from e) (by have := G.out.2.2.2.2.2.2.2.2; omega)))))
      have q8 := blk4 r8
      clear k6 k6' s4 r8 g8 g7
      go_wp2_with fail
      refine hK.out _ _ (fun _ => hD6) ?_
      clear hK K
      try simp only [Act.put, List.setIfInBounds_toArray, List.set_cons_zero, List.set_cons_succ]
      refine wpAnyG_onlyL (i := 7) (o := _) (by kernel_rfl) rfl (fun K hK => ?_)
      go_simp
      refine hK.out _ _ (fun _ => hD6) ?_
      clear hK K
      try simp only [Act.put, List.setIfInBounds_toArray, List.set_cons_zero, List.set_cons_succ]
      refine wpAnyG_onlyL (i := 8) (o := _) (by kernel_rfl) rfl (fun K hK => ?_)
      go_simp
      refine hK.out _ _ (fun _ => (k7.block _ (lt_of_heap hD6) (by omega)).trans hD6) ?_
      clear hK K
      try simp only [Act.put, List.setIfInBounds_toArray, List.set_cons_zero, List.set_cons_succ]
      refine wpAnyG_done (by kernel_rfl) ?_ _
      go_simp
      obtain ⟨w7, hw7⟩ : ∃ w7, w6.setCell ⟨wq.heap.size + 1, 1, none⟩ (.slice p4 n4 c4) = w7 := ⟨_, rfl⟩
      have E7 := E.out
      have hj : (2 - 1 : Nat) = 1 := by decide
      rw [hj, hw7] at E7
      rw [hw7]
      have V := Lib.hid E7
      obtain ⟨⟨u1, u2, u3, u4, u5, u6, u7, u8, u9, e5, CC⟩, ⟨d1, d2, d3, d4, d5, d6, d7, d8, d9, e8, DD⟩, _⟩ := E7
      have CS := Lib.hid (show SeesG w7 (.agg #[.slice u1 u2 u3, .slice u4 u5 u6, .slice u7 u8 u9, .bool cur.odd]) cur from ⟨_, _, _, _, _, _, _, _, _, rfl, CC⟩)
      have DS := Lib.hid (show SeesG w7 (.agg #[.slice d1 d2 d3, .slice d4 d5 d6, .slice d7 d8 d9, .bool (oneR 2 L).odd]) (oneR 2 L) from ⟨_, _, _, _, _, _, _, _, _, rfl, DD⟩)
      have q5 := blk4 e5
      have q6 := blk4 e8
      clear q8 E hw7 k7 hD6 e5 e8 CC DD rd0 hj
      go_wp2_with fail
      refine (Minus_any _ _ cur (oneR 2 L) 17 2 _ CS.out DS.out G.out.2.2.2.2.2.1 G.out.2.2.2.2.1 (by omega)).mono ?_
      rintro e w8 ⟨v8, rfl, g8, k8⟩
      obtain ⟨t1, t2, t3, t4, t5, t6, t7, t8, t9, rfl, TS⟩ := g8
      have g9 := V.out.1.to k8
      obtain ⟨P, KP⟩ := g9.put TS
      have U := Lib.hid (And.intro P ((V.out.2.2.then k8 (fun _ _ f => f.elim)).then KP (fun i hi e => e)))
      obtain ⟨_, _, _, _, _, _, _, _, _, e9, _⟩ := g9
      have q9 := blk4 e9
      clear k8 e9 P KP q5 q6 TS
      go_wp2_with fail
      go_roundw
      case rel => exact ⟨i + 1, by omega, by go_num, by rw [G.out.2.2.2.2.2.2.1]; exact U.out.1, U.out.2⟩
      case measure => simp [intOf]; omega
     ·have hwr : IntKind.i64.wrap 2 = 2 := by decide
      go_upto_region 12 with fail
      clear x0 x1 x2 x3 hW5
      refine wp_region_g (S := fun W => W.heap[wq.heap.size]? = some (.cells #[.int .i64 3, .int .i64 yn, .string ys, .bool yb] 61 (0, 0))) (M := [0, 1, 2, 3, 4, 5, 6, 7, 8]) (by kernel_rfl) ?_
      refine tkG (i := 6) (v := ?vn3t6) ?yn3t6 rd0 ?rn3t6
      case yn3t6 => (intro W hSw; go_simp; try with_reducible rfl)
      try simp only [Act.put, List.setIfInBounds_toArray, List.set_cons_zero, List.set_cons_succ]
      refine tkG (i := 0) (v := ?vn3t0) ?yn3t0 rd0 ?rn3t0
      case yn3t0 => (intro W hSw; go_simp; try with_reducible rfl)
      try simp only [Act.put, List.setIfInBounds_toArray, List.set_cons_zero, List.set_cons_succ]
      refine tkG (i := 1) (v := ?vn3t1) ?yn3t1 rd0 ?rn3t1
      case yn3t1 => (intro W hSw; have q3 := blk4 hSw; go_simp; try with_reducible rfl)
      try simp only [Act.put, List.setIfInBounds_toArray, List.set_cons_zero, List.set_cons_succ]
      refine tkG (i := 2) (v := ?vn3t2) ?yn3t2 rd0 ?rn3t2
      case yn3t2 => (intro W hSw; go_simp; try with_reducible rfl)
      try simp only [Act.put, List.setIfInBounds_toArray, List.set_cons_zero, List.set_cons_succ]
      refine tkG (i := 3) (v := ?vn3t3) ?yn3t3 rd0 ?rn3t3
      case yn3t3 => (intro W hSw; have q3 := blk4 hSw; go_simp; try with_reducible rfl)
      try simp only [Act.put, List.setIfInBounds_toArray, List.set_cons_zero, List.set_cons_succ]
      refine tkG (i := 4) (v := ?vn3t4) ?yn3t4 rd0 ?rn3t4
      case yn3t4 => (intro W hSw; go_simp; try with_reducible rfl)
      try simp only [Act.put, List.setIfInBounds_toArray, List.set_cons_zero, List.set_cons_succ]
      refine wpAnyG_onlyL (i := 5) (o := _) (by kernel_rfl) rfl (fun K hK => ?_)
      go_simp
      refine (OF.out _).mono ?_
      rintro e w6 ⟨p4, n4, c4, rfl, s4, k6⟩
      have hD6 := (k6.block _ (lt_of_heap rd0) (fun f => f)).trans rd0
      have k6' : Old W5 w6 := (Keeps.refl (fun _ => False) W5).drew.trans k6
      have r8 := (k6'.block _ (lt_of_heap G.out.2.2.2.1) (fun f => f)).trans G.out.2.2.2.1
      have k7 := keepV w6 (wq.heap.size + 1) 2 (.slice p4 n4 c4)
      have g8 := GB.one (k := 3) r8 s4 (by omega)
      have g7 := (G.out.1.to k6').keep r8 (by have := G.out.2.2.2.2.2.2.2.1; omega) k7
      have E := Lib.hid (And.intro g7 (And.intro g8 ((G.out.2.1.then k6' (fun _ _ f => f.elim)).then k7 (fun i hi e => absurd (show i = wq.heap.size + 1 from e) (by have := G.out.2.2.2.2.2.2.2.2; omega)))))
      have q8 := blk4 r8
      clear k6 k6' s4 r8 g8 g7
      go_wp2_with fail
      refine hK.out _ _ (fun _ => hD6) ?_
      clear hK K
      try simp only [Act.put, List.setIfInBounds_toArray, List.set_cons_zero, List.set_cons_succ]
      refine wpAnyG_onlyL (i := 7) (o := _) (by kernel_rfl) rfl (fun K hK => ?_)
      go_simp
      refine hK.out _ _ (fun _ => hD6) ?_
      clear hK K
      try simp only [Act.put, List.setIfInBounds_toArray, List.set_cons_zero, List.set_cons_succ]
      refine wpAnyG_onlyL (i := 8) (o := _) (by kernel_rfl) rfl (fun K hK => ?_)
      go_simp
      refine hK.out _ _ (fun _ => (k7.block _ (lt_of_heap hD6) (by omega)).trans hD6) ?_
      clear hK K
      try simp only [Act.put, List.setIfInBounds_toArray, List.set_cons_zero, List.set_cons_succ]
      refine wpAnyG_done (by kernel_rfl) ?_ _
      go_simp
      obtain ⟨w7, hw7⟩ : ∃ w7, w6.setCell ⟨wq.heap.size + 1, 2, none⟩ (.slice p4 n4 c4) = w7 := ⟨_, rfl⟩
      have E7 := E.out
      have hj : (3 - 1 : Nat) = 2 := by decide
      rw [hj, hw7] at E7
      rw [hw7]
      have V := Lib.hid E7
      obtain ⟨⟨u1, u2, u3, u4, u5, u6, u7, u8, u9, e5, CC⟩, ⟨d1, d2, d3, d4, d5, d6, d7, d8, d9, e8, DD⟩, _⟩ := E7
      have CS := Lib.hid (show SeesG w7 (.agg #[.slice u1 u2 u3, .slice u4 u5 u6, .slice u7 u8 u9, .bool cur.odd]) cur from ⟨_, _, _, _, _, _, _, _, _, rfl, CC⟩)
      have DS := Lib.hid (show SeesG w7 (.agg #[.slice d1 d2 d3, .slice d4 d5 d6, .slice d7 d8 d9, .bool (oneR 3 L).odd]) (oneR 3 L) from ⟨_, _, _, _, _, _, _, _, _, rfl, DD⟩)
      have q5 := blk4 e5
      have q6 := blk4 e8
      clear q8 E hw7 k7 hD6 e5 e8 CC DD rd0 hj
      go_wp2_with fail
      refine (Minus_any _ _ cur (oneR 3 L) 17 2 _ CS.out DS.out G.out.2.2.2.2.2.1 G.out.2.2.2.2.1 (by omega)).mono ?_
      rintro e w8 ⟨v8, rfl, g8, k8⟩
      obtain ⟨t1, t2, t3, t4, t5, t6, t7, t8, t9, rfl, TS⟩ := g8
      have g9 := V.out.1.to k8
      obtain ⟨P, KP⟩ := g9.put TS
      have U := Lib.hid (And.intro P ((V.out.2.2.then k8 (fun _ _ f => f.elim)).then KP (fun i hi e => e)))
      obtain ⟨_, _, _, _, _, _, _, _, _, e9, _⟩ := g9
      have q9 := blk4 e9
      clear k8 e9 P KP q5 q6 TS
      go_wp2_with fail
      go_roundw
      case rel => exact ⟨i + 1, by omega, by go_num, by rw [G.out.2.2.2.2.2.2.1]; exact U.out.1, U.out.2⟩
      case measure => simp [intOf]; omega
    ·have hil : i = set.length := by omega
     have hgl : GB b5 (restR set allR) wq := by
      rw [List.take_of_length_le (by omega)] at hg
      exact hg
     rw [List.take_of_length_le (by omega)] at hokA
     have ra := (hk.block _ (lt_of_heap D.out.2.1) (by have := D.out.2.2.2.2; omega)).trans D.out.2.1
     have rb := (hk.block _ (lt_of_heap D.out.2.2.1) (by have := D.out.2.2.2.2; omega)).trans D.out.2.2.1
     have E := Lib.hid (And.intro ow (And.intro ra (And.intro rb (And.intro hgl hokA))))
     have hnl : ¬ i < set.length := hlt
     obtain ⟨z1, z2, z3, z4, z5, z6, z7, z8, z9, e7, ZZ⟩ := hgl
     have ZS := Lib.hid (show SeesG wq (.agg #[.slice z1 z2 z3, .slice z4 z5 z6, .slice z7 z8 z9, .bool (restR set allR).odd]) (restR set allR) from ⟨_, _, _, _, _, _, _, _, _, rfl, ZZ⟩)
     obtain ⟨odd, hodd⟩ : ∃ odd, (restR set allR).odd = odd := ⟨_, rfl⟩
     rw [hodd] at e7 ZS
     have rd : wq.drew.heap[b5]? = some (.cells #[.slice z1 z2 z3, .slice z4 z5 z6, .slice z7 z8 z9, .bool odd] 102 (0, 0)) := e7
     clear hk hg ow ra rb e7 ZZ hodd hokA
     go_upto_region 15 with fail
     refine wp_region_g (S := fun W => W.heap[b5]? = some (.cells #[.slice z1 z2 z3, .slice z4 z5 z6, .slice z7 z8 z9, .bool odd] 102 (0, 0))) (M := [0, 1, 2, 3]) (by kernel_rfl) ?_
     refine tkG (i := 1) (v := ?vl1) ?yl1 rd ?rl1
     case yl1 => (intro W hSw; have q3 := blk4 hSw; go_simp; try with_reducible rfl)
     try simp only [Act.put, List.setIfInBounds_toArray, List.set_cons_zero, List.set_cons_succ]
     refine wpAnyG_onlyL (i := 0) (o := _) (by kernel_rfl) rfl (fun K hK => ?_)
     go_simp
     refine (All_any _).mono ?_
     rintro e w4 ⟨v4, rfl, g4, k4⟩
     have hD4 := (k4.block _ (lt_of_heap rd) (fun f => f)).trans rd
     have k4' : Old wq w4 := (Keeps.refl (fun _ => False) wq).drew.trans k4
     have T := Lib.hid (And.intro g4 (And.intro (ZS.out.old k4') k4'))
     obtain ⟨x1, x2, x3, x4, x5, x6, x7, x8, x9, rfl, _⟩ := g4
     clear k4 k4' rd
     go_wp2_with fail
     refine hK.out _ _ (fun _ => hD4) ?_
     clear hK K
     try simp only [Act.put, List.setIfInBounds_toArray, List.set_cons_zero, List.set_cons_succ]
     refine wpAnyG_onlyL (i := 2) (o := _) (by kernel_rfl) rfl (fun K hK => ?_)
     go_simp
     refine (Minus_any _ _ allR (restR set allR) 1 17 _ T.out.1 T.out.2.1 allR_ok E.out.2.2.2.2 (by omega)).mono ?_
     rintro e w5 ⟨v5, rfl, g5, k5⟩
     have hD5 := (k5.block _ (lt_of_heap hD4) (fun f => f)).trans hD4
     obtain ⟨t1, t2, t3, t4, t5, t6, t7, t8, t9, rfl, TS⟩ := g5
     have k5' := T.out.2.2.trans k5
     have ra := (k5'.block _ (lt_of_heap E.out.2.1) (fun f => f)).trans E.out.2.1
     have rb := (k5'.block _ (lt_of_heap E.out.2.2.1) (fun f => f)).trans E.out.2.2.1
     have V := Lib.hid (And.intro (E.out.1.trans k5') (And.intro ra (And.intro rb TS)))
     have q8 := blk4 rb
     clear k5 k5' ra rb TS hD4
     go_wp2_with fail
     refine hK.out _ _ (fun _ => hD5) ?_
     clear hK K
     try simp only [Act.put, List.setIfInBounds_toArray, List.set_cons_zero, List.set_cons_succ]
     refine wpAnyG_onlyL (i := 3) (o := _) (by kernel_rfl) rfl (fun K hK => ?_)
     go_simp
     obtain ⟨odd2, hodd2⟩ : ∃ odd2, (minusR allR (restR set allR)).odd = odd2 := ⟨_, rfl⟩
     rw [hodd2]
     have k6 := keep44 w5 (w.heap.size + 1 + 1) (.slice t1 t2 t3) (.slice t4 t5 t6) (.slice t7 t8 t9) (.bool odd2)
     refine hK.out _ _ (fun _ => (k6.block _ (lt_of_heap hD5) (by have := D.out.2.2.2.2; omega)).trans hD5) ?_
     clear hK K
     try simp only [Act.put, List.setIfInBounds_toArray, List.set_cons_zero, List.set_cons_succ]
     refine wpAnyG_done (by kernel_rfl) ?_ _
     go_simp
     have hodd := hodd2
     obtain ⟨w6, hw6⟩ : ∃ w6, (((w5.setCell ⟨w.heap.size + 1 + 1, 0, none⟩ (.slice t1 t2 t3)).setCell ⟨w.heap.size + 1 + 1, 1, none⟩ (.slice t4 t5 t6)).setCell ⟨w.heap.size + 1 + 1, 2, none⟩ (.slice t7 t8 t9)).setCell ⟨w.heap.size + 1 + 1, 3, none⟩ (.bool odd2) = w6 := ⟨_, rfl⟩
     obtain ⟨F1, ⟨_, _, _, _, _, _, _, _, _, e9, S1, S2, S3⟩, K1⟩ := putG V.out.2.2.1 V.out.2.2.2
     simp only [Value.agg.injEq, Array.mk.injEq, List.cons.injEq, and_true] at e9
     obtain ⟨e1, e2, e3⟩ := e9
     rw [← e1] at S1
     rw [← e2] at S2
     rw [← e3] at S3
     rw [hodd2, hw6] at F1 S1 S2 S3 K1
     rw [hw6] at k6
     rw [hw6]
     have r6 := (k6.block _ (lt_of_heap V.out.2.1) (by omega)).trans V.out.2.1
     obtain ⟨F, gF, kF⟩ := putG r6 (r := minusR allR (restR set allR)) ⟨S1, S2, S3⟩
     rw [hodd2] at F gF kF
     have Z := Lib.hid (And.intro F (And.intro gF ((V.out.1.then k6 (fun i hi e => absurd (show i = w.heap.size + 1 + 1 from e) (by omega))).then kF (fun i hi e => absurd (show i = w.heap.size + 1 from e) (by omega)))))
     have q9 := blk4 F1
     have q7 := blk4 r6
     clear q8 hw6 k6 F1 S1 S2 S3 K1 e1 e2 e3 F gF kF hD5 r6 hodd hodd2
     go_wp2_with fail
     have Z9 := Z.out
     clear Z
     obtain ⟨W9, hW9⟩ : ∃ W9, (((w6.setCell ⟨w.heap.size + 1, 0, none⟩ (.slice t1 t2 t3)).setCell ⟨w.heap.size + 1, 1, none⟩ (.slice t4 t5 t6)).setCell ⟨w.heap.size + 1, 2, none⟩ (.slice t7 t8 t9)).setCell ⟨w.heap.size + 1, 3, none⟩ (.bool odd2) = W9 := ⟨_, rfl⟩
     rw [hW9] at Z9 ⊢
     have F4 := blk4 Z9.1
     exact bodyPost_ret (v := .tuple #[.agg #[.slice t1 t2 t3, .slice t4 t5 t6, .slice t7 t8 t9, .bool odd2], .int .i64 0]) (by simp [results, Tryz.results87, go_sem, F4]) rfl ⟨_, rfl, Z9.2.1, Z9.2.2⟩
  ·have hv := H.out.2.2.val (by have := H.out.2.2.lo; simp only [Con.plain] at this ⊢; omega) (by have := H.out.2.2.hi; simp only [Con.plain] at this ⊢; omega)
   simp only [Con.plain] at hv
   have hsz : cs.size ≤ 1000 := by
    have hl : cs.toList.length = cs.size := by rw [ByteArray.toList_eq]; simp
    have h0 := hv.1
    unfold Val.ok at h0
    simp only at h0
    split at h0
    ·simp at h0; rw [← hl, h0.1]; simp
    ·split at h0
     ·simp at h0; omega
     ·simp at h0; rw [← hl, h0.2]; simp
   rcases kinds hv.1 with hk | hk | hk <;> simp only at hk <;> subst hk
   ·have OF := Lib.hid (fun W => of_any ⟨nm, op, ⟨1, cn, cs, cb⟩, .slice p set.length cc, set⟩ W hv.2.1 hsz ⟨_, _, _, rfl⟩)
    have hR : OfR (⟨nm, op, ⟨1, cn, cs, cb⟩, .slice p set.length cc, set⟩ : Con).plain = oneR 1 (ofL (⟨nm, op, ⟨1, cn, cs, cb⟩, .slice p set.length cc, set⟩ : Con).plain) := by
     show (if op = 1 then allR else if op = 9 then _ else _) = _
     rw [if_neg h1, if_neg h9]
     rfl
    have HR := Lib.hid hR
    clear hR
    generalize ofL (⟨nm, op, ⟨1, cn, cs, cb⟩, .slice p set.length cc, set⟩ : Con).plain = L at OF HR
    simp only [Con.cells] at OF
    have rd : W2.drew.heap[w.heap.size]? = some (.cells #[.string nm, .int .i64 op, .int .i64 1, .int .i64 cn, .string cs, .bool cb, .slice p set.length cc] 78 (0, 0)) := B.out.1
    go_upto_region 17 with fail
    clear q1
    have hwr : IntKind.i64.wrap 0 = 0 := by decide
    refine wp_region_g (S := fun W => W.heap[w.heap.size]? = some (.cells #[.string nm, .int .i64 op, .int .i64 1, .int .i64 cn, .string cs, .bool cb, .slice p set.length cc] 78 (0, 0))) (M := [0, 1, 2, 3, 4, 5, 6, 7, 8]) (by kernel_rfl) ?_
    refine tkG (i := 6) (v := ?vk1t6) ?yk1t6 rd ?rk1t6
    case yk1t6 => (intro W hSw; go_simp; try with_reducible rfl)
    try simp only [Act.put, List.setIfInBounds_toArray, List.set_cons_zero, List.set_cons_succ]
    refine tkG (i := 0) (v := ?vk1t0) ?yk1t0 rd ?rk1t0
    case yk1t0 => (intro W hSw; go_simp; try with_reducible rfl)
    try simp only [Act.put, List.setIfInBounds_toArray, List.set_cons_zero, List.set_cons_succ]
    refine tkG (i := 1) (v := ?vk1t1) ?yk1t1 rd ?rk1t1
    case yk1t1 => (intro W hSw; go_simp; try with_reducible rfl)
    try simp only [Act.put, List.setIfInBounds_toArray, List.set_cons_zero, List.set_cons_succ]
    refine tkG (i := 2) (v := ?vk1t2) ?yk1t2 rd ?rk1t2
    case yk1t2 => (intro W hSw; have q3 := blk7 hSw; go_simp; try with_reducible rfl)
    try simp only [Act.put, List.setIfInBounds_toArray, List.set_cons_zero, List.set_cons_succ]
    refine tkG (i := 3) (v := ?vk1t3) ?yk1t3 rd ?rk1t3
    case yk1t3 => (intro W hSw; go_simp; try with_reducible rfl)
    try simp only [Act.put, List.setIfInBounds_toArray, List.set_cons_zero, List.set_cons_succ]
    refine tkG (i := 4) (v := ?vk1t4) ?yk1t4 rd ?rk1t4
    case yk1t4 => (intro W hSw; have q3 := blk7 hSw; go_simp; try with_reducible rfl)
    try simp only [Act.put, List.setIfInBounds_toArray, List.set_cons_zero, List.set_cons_succ]
    refine wpAnyG_onlyL (i := 5) (o := _) (by kernel_rfl) rfl (fun K hK => ?_)
    go_simp
    refine (OF.out _).mono ?_
    rintro e w4 ⟨p4, n4, c4, rfl, s4, k4⟩
    have hD4 := (k4.block _ (lt_of_heap rd) (fun f => f)).trans rd
    have r4 := (k4.block _ (lt_of_heap (show W2.drew.heap[w.heap.size + 1 + 1]? = _ from B.out.2.2.1)) (fun f => f)).trans (show W2.drew.heap[w.heap.size + 1 + 1]? = _ from B.out.2.2.1)
    have r3 := (k4.block _ (lt_of_heap (show W2.drew.heap[w.heap.size + 1]? = _ from B.out.2.1)) (fun f => f)).trans (show W2.drew.heap[w.heap.size + 1]? = _ from B.out.2.1)
    have E := Lib.hid (And.intro r4 (And.intro r3 (And.intro s4 ((B.out.2.2.2.trans (Keeps.refl _ _).drew).trans k4))))
    have q8 := blk4 r4
    clear k4 s4 r3 r4
    go_wp2_with fail
    refine hK.out _ _ (fun _ => hD4) ?_
    clear hK K
    try simp only [Act.put, List.setIfInBounds_toArray, List.set_cons_zero, List.set_cons_succ]
    refine wpAnyG_onlyL (i := 7) (o := _) (by kernel_rfl) rfl (fun K hK => ?_)
    go_simp
    refine hK.out _ _ (fun _ => hD4) ?_
    clear hK K
    try simp only [Act.put, List.setIfInBounds_toArray, List.set_cons_zero, List.set_cons_succ]
    refine wpAnyG_onlyL (i := 8) (o := _) (by kernel_rfl) rfl (fun K hK => ?_)
    go_simp
    have k5 := keepV w4 (w.heap.size + 1 + 1) 0 (.slice p4 n4 c4)
    refine hK.out _ _ (fun _ => (k5.block _ (lt_of_heap hD4) (by omega)).trans hD4) ?_
    clear hK K
    try simp only [Act.put, List.setIfInBounds_toArray, List.set_cons_zero, List.set_cons_succ]
    refine wpAnyG_done (by kernel_rfl) ?_ _
    go_simp
    obtain ⟨w5, hw5⟩ : ∃ w5, w4.setCell ⟨w.heap.size + 1 + 1, 0, none⟩ (.slice p4 n4 c4) = w5 := ⟨_, rfl⟩
    have f5 := heap_setCell_same w4 (w.heap.size + 1 + 1) 0 _ _ (.slice p4 n4 c4) E.out.1
    have s5 := E.out.2.2.1.put_reg E.out.1 0 (.slice p4 n4 c4)
    rw [hw5] at k5 f5 s5 ⊢
    have r5 := (k5.block _ (lt_of_heap E.out.2.1) (by omega)).trans E.out.2.1
    have g5 : w5.heap[w.heap.size + 1 + 1]? = some (.cells #[.slice p4 n4 c4, .slice none 0 0, .slice none 0 0, .bool false] 102 (0, 0)) := by simpa using f5
    obtain ⟨F, gF, kF⟩ := putG r5 (r := oneR 1 L) ⟨s5, SeesR.nil _, SeesR.nil _⟩
    have Z := Lib.hid (And.intro gF ((E.out.2.2.2.then k5 (fun i hi e => absurd (show i = w.heap.size + 1 + 1 from e) (by omega))).then kF (fun i hi e => absurd (show i = w.heap.size + 1 from e) (by omega))))
    have FF := Lib.hid F
    have q9 := blk4 g5
    have q7 := blk4 r5
    clear q8 hw5 k5 f5 s5 r5 g5 F gF kF hD4
    go_wp2_with fail
    have Z9 := Z.out
    have F := FF.out
    clear Z FF
    obtain ⟨W9, hW9⟩ : ∃ W9, (((w5.setCell ⟨w.heap.size + 1, 0, none⟩ (.slice p4 n4 c4)).setCell ⟨w.heap.size + 1, 1, none⟩ (.slice none 0 0)).setCell ⟨w.heap.size + 1, 2, none⟩ (.slice none 0 0)).setCell ⟨w.heap.size + 1, 3, none⟩ (.bool false) = W9 := ⟨_, rfl⟩
    have hod : (oneR 1 L).odd = false := rfl
    rw [hod, hW9] at F Z9
    rw [hW9]
    have F4 := blk4 F
    exact bodyPost_ret (v := .tuple #[.agg #[.slice p4 n4 c4, .slice none 0 0, .slice none 0 0, .bool false], .int .i64 0]) (by simp [results, Tryz.results87, go_sem, F4]) rfl ⟨_, rfl, by rw [HR.out]; exact Z9.1, Z9.2⟩
   ·have OF := Lib.hid (fun W => of_any ⟨nm, op, ⟨2, cn, cs, cb⟩, .slice p set.length cc, set⟩ W hv.2.1 hsz ⟨_, _, _, rfl⟩)
    have hR : OfR (⟨nm, op, ⟨2, cn, cs, cb⟩, .slice p set.length cc, set⟩ : Con).plain = oneR 2 (ofL (⟨nm, op, ⟨2, cn, cs, cb⟩, .slice p set.length cc, set⟩ : Con).plain) := by
     show (if op = 1 then allR else if op = 9 then _ else _) = _
     rw [if_neg h1, if_neg h9]
     rfl
    have HR := Lib.hid hR
    clear hR
    generalize ofL (⟨nm, op, ⟨2, cn, cs, cb⟩, .slice p set.length cc, set⟩ : Con).plain = L at OF HR
    simp only [Con.cells] at OF
    have rd : W2.drew.heap[w.heap.size]? = some (.cells #[.string nm, .int .i64 op, .int .i64 2, .int .i64 cn, .string cs, .bool cb, .slice p set.length cc] 78 (0, 0)) := B.out.1
    go_upto_region 17 with fail
    clear q1
    have hwr : IntKind.i64.wrap 1 = 1 := by decide
    refine wp_region_g (S := fun W => W.heap[w.heap.size]? = some (.cells #[.string nm, .int .i64 op, .int .i64 2, .int .i64 cn, .string cs, .bool cb, .slice p set.length cc] 78 (0, 0))) (M := [0, 1, 2, 3, 4, 5, 6, 7, 8]) (by kernel_rfl) ?_
    refine tkG (i := 6) (v := ?vk2t6) ?yk2t6 rd ?rk2t6
    case yk2t6 => (intro W hSw; go_simp; try with_reducible rfl)
    try simp only [Act.put, List.setIfInBounds_toArray, List.set_cons_zero, List.set_cons_succ]
    refine tkG (i := 0) (v := ?vk2t0) ?yk2t0 rd ?rk2t0
    case yk2t0 => (intro W hSw; go_simp; try with_reducible rfl)
    try simp only [Act.put, List.setIfInBounds_toArray, List.set_cons_zero, List.set_cons_succ]
    refine tkG (i := 1) (v := ?vk2t1) ?yk2t1 rd ?rk2t1
    case yk2t1 => (intro W hSw; go_simp; try with_reducible rfl)
    try simp only [Act.put, List.setIfInBounds_toArray, List.set_cons_zero, List.set_cons_succ]
    refine tkG (i := 2) (v := ?vk2t2) ?yk2t2 rd ?rk2t2
    case yk2t2 => (intro W hSw; have q3 := blk7 hSw; go_simp; try with_reducible rfl)
    try simp only [Act.put, List.setIfInBounds_toArray, List.set_cons_zero, List.set_cons_succ]
    refine tkG (i := 3) (v := ?vk2t3) ?yk2t3 rd ?rk2t3
    case yk2t3 => (intro W hSw; go_simp; try with_reducible rfl)
    try simp only [Act.put, List.setIfInBounds_toArray, List.set_cons_zero, List.set_cons_succ]
    refine tkG (i := 4) (v := ?vk2t4) ?yk2t4 rd ?rk2t4
    case yk2t4 => (intro W hSw; have q3 := blk7 hSw; go_simp; try with_reducible rfl)
    try simp only [Act.put, List.setIfInBounds_toArray, List.set_cons_zero, List.set_cons_succ]
    refine wpAnyG_onlyL (i := 5) (o := _) (by kernel_rfl) rfl (fun K hK => ?_)
    go_simp
    refine (OF.out _).mono ?_
    rintro e w4 ⟨p4, n4, c4, rfl, s4, k4⟩
    have hD4 := (k4.block _ (lt_of_heap rd) (fun f => f)).trans rd
    have r4 := (k4.block _ (lt_of_heap (show W2.drew.heap[w.heap.size + 1 + 1]? = _ from B.out.2.2.1)) (fun f => f)).trans (show W2.drew.heap[w.heap.size + 1 + 1]? = _ from B.out.2.2.1)
    have r3 := (k4.block _ (lt_of_heap (show W2.drew.heap[w.heap.size + 1]? = _ from B.out.2.1)) (fun f => f)).trans (show W2.drew.heap[w.heap.size + 1]? = _ from B.out.2.1)
    have E := Lib.hid (And.intro r4 (And.intro r3 (And.intro s4 ((B.out.2.2.2.trans (Keeps.refl _ _).drew).trans k4))))
    have q8 := blk4 r4
    clear k4 s4 r3 r4
    go_wp2_with fail
    refine hK.out _ _ (fun _ => hD4) ?_
    clear hK K
    try simp only [Act.put, List.setIfInBounds_toArray, List.set_cons_zero, List.set_cons_succ]
    refine wpAnyG_onlyL (i := 7) (o := _) (by kernel_rfl) rfl (fun K hK => ?_)
    go_simp
    refine hK.out _ _ (fun _ => hD4) ?_
    clear hK K
    try simp only [Act.put, List.setIfInBounds_toArray, List.set_cons_zero, List.set_cons_succ]
    refine wpAnyG_onlyL (i := 8) (o := _) (by kernel_rfl) rfl (fun K hK => ?_)
    go_simp
    have k5 := keepV w4 (w.heap.size + 1 + 1) 1 (.slice p4 n4 c4)
    refine hK.out _ _ (fun _ => (k5.block _ (lt_of_heap hD4) (by omega)).trans hD4) ?_
    clear hK K
    try simp only [Act.put, List.setIfInBounds_toArray, List.set_cons_zero, List.set_cons_succ]
    refine wpAnyG_done (by kernel_rfl) ?_ _
    go_simp
    obtain ⟨w5, hw5⟩ : ∃ w5, w4.setCell ⟨w.heap.size + 1 + 1, 1, none⟩ (.slice p4 n4 c4) = w5 := ⟨_, rfl⟩
    have f5 := heap_setCell_same w4 (w.heap.size + 1 + 1) 1 _ _ (.slice p4 n4 c4) E.out.1
    have s5 := E.out.2.2.1.put_reg E.out.1 1 (.slice p4 n4 c4)
    rw [hw5] at k5 f5 s5 ⊢
    have r5 := (k5.block _ (lt_of_heap E.out.2.1) (by omega)).trans E.out.2.1
    have g5 : w5.heap[w.heap.size + 1 + 1]? = some (.cells #[.slice none 0 0, .slice p4 n4 c4, .slice none 0 0, .bool false] 102 (0, 0)) := by simpa using f5
    obtain ⟨F, gF, kF⟩ := putG r5 (r := oneR 2 L) ⟨SeesR.nil _, s5, SeesR.nil _⟩
    have Z := Lib.hid (And.intro gF ((E.out.2.2.2.then k5 (fun i hi e => absurd (show i = w.heap.size + 1 + 1 from e) (by omega))).then kF (fun i hi e => absurd (show i = w.heap.size + 1 from e) (by omega))))
    have FF := Lib.hid F
    have q9 := blk4 g5
    have q7 := blk4 r5
    clear q8 hw5 k5 f5 s5 r5 g5 F gF kF hD4
    go_wp2_with fail
    have Z9 := Z.out
    have F := FF.out
    clear Z FF
    obtain ⟨W9, hW9⟩ : ∃ W9, (((w5.setCell ⟨w.heap.size + 1, 0, none⟩ (.slice none 0 0)).setCell ⟨w.heap.size + 1, 1, none⟩ (.slice p4 n4 c4)).setCell ⟨w.heap.size + 1, 2, none⟩ (.slice none 0 0)).setCell ⟨w.heap.size + 1, 3, none⟩ (.bool false) = W9 := ⟨_, rfl⟩
    have hod : (oneR 2 L).odd = false := rfl
    rw [hod, hW9] at F Z9
    rw [hW9]
    have F4 := blk4 F
    exact bodyPost_ret (v := .tuple #[.agg #[.slice none 0 0, .slice p4 n4 c4, .slice none 0 0, .bool false], .int .i64 0]) (by simp [results, Tryz.results87, go_sem, F4]) rfl ⟨_, rfl, by rw [HR.out]; exact Z9.1, Z9.2⟩
   ·have OF := Lib.hid (fun W => of_any ⟨nm, op, ⟨3, cn, cs, cb⟩, .slice p set.length cc, set⟩ W hv.2.1 hsz ⟨_, _, _, rfl⟩)
    have hR : OfR (⟨nm, op, ⟨3, cn, cs, cb⟩, .slice p set.length cc, set⟩ : Con).plain = oneR 3 (ofL (⟨nm, op, ⟨3, cn, cs, cb⟩, .slice p set.length cc, set⟩ : Con).plain) := by
     show (if op = 1 then allR else if op = 9 then _ else _) = _
     rw [if_neg h1, if_neg h9]
     rfl
    have HR := Lib.hid hR
    clear hR
    generalize ofL (⟨nm, op, ⟨3, cn, cs, cb⟩, .slice p set.length cc, set⟩ : Con).plain = L at OF HR
    simp only [Con.cells] at OF
    have rd : W2.drew.heap[w.heap.size]? = some (.cells #[.string nm, .int .i64 op, .int .i64 3, .int .i64 cn, .string cs, .bool cb, .slice p set.length cc] 78 (0, 0)) := B.out.1
    go_upto_region 17 with fail
    clear q1
    have hwr : IntKind.i64.wrap 2 = 2 := by decide
    refine wp_region_g (S := fun W => W.heap[w.heap.size]? = some (.cells #[.string nm, .int .i64 op, .int .i64 3, .int .i64 cn, .string cs, .bool cb, .slice p set.length cc] 78 (0, 0))) (M := [0, 1, 2, 3, 4, 5, 6, 7, 8]) (by kernel_rfl) ?_
    refine tkG (i := 6) (v := ?vk3t6) ?yk3t6 rd ?rk3t6
    case yk3t6 => (intro W hSw; go_simp; try with_reducible rfl)
    try simp only [Act.put, List.setIfInBounds_toArray, List.set_cons_zero, List.set_cons_succ]
    refine tkG (i := 0) (v := ?vk3t0) ?yk3t0 rd ?rk3t0
    case yk3t0 => (intro W hSw; go_simp; try with_reducible rfl)
    try simp only [Act.put, List.setIfInBounds_toArray, List.set_cons_zero, List.set_cons_succ]
    refine tkG (i := 1) (v := ?vk3t1) ?yk3t1 rd ?rk3t1
    case yk3t1 => (intro W hSw; go_simp; try with_reducible rfl)
    try simp only [Act.put, List.setIfInBounds_toArray, List.set_cons_zero, List.set_cons_succ]
    refine tkG (i := 2) (v := ?vk3t2) ?yk3t2 rd ?rk3t2
    case yk3t2 => (intro W hSw; have q3 := blk7 hSw; go_simp; try with_reducible rfl)
    try simp only [Act.put, List.setIfInBounds_toArray, List.set_cons_zero, List.set_cons_succ]
    refine tkG (i := 3) (v := ?vk3t3) ?yk3t3 rd ?rk3t3
    case yk3t3 => (intro W hSw; go_simp; try with_reducible rfl)
    try simp only [Act.put, List.setIfInBounds_toArray, List.set_cons_zero, List.set_cons_succ]
    refine tkG (i := 4) (v := ?vk3t4) ?yk3t4 rd ?rk3t4
    case yk3t4 => (intro W hSw; have q3 := blk7 hSw; go_simp; try with_reducible rfl)
    try simp only [Act.put, List.setIfInBounds_toArray, List.set_cons_zero, List.set_cons_succ]
    refine wpAnyG_onlyL (i := 5) (o := _) (by kernel_rfl) rfl (fun K hK => ?_)
    go_simp
    refine (OF.out _).mono ?_
    rintro e w4 ⟨p4, n4, c4, rfl, s4, k4⟩
    have hD4 := (k4.block _ (lt_of_heap rd) (fun f => f)).trans rd
    have r4 := (k4.block _ (lt_of_heap (show W2.drew.heap[w.heap.size + 1 + 1]? = _ from B.out.2.2.1)) (fun f => f)).trans (show W2.drew.heap[w.heap.size + 1 + 1]? = _ from B.out.2.2.1)
    have r3 := (k4.block _ (lt_of_heap (show W2.drew.heap[w.heap.size + 1]? = _ from B.out.2.1)) (fun f => f)).trans (show W2.drew.heap[w.heap.size + 1]? = _ from B.out.2.1)
    have E := Lib.hid (And.intro r4 (And.intro r3 (And.intro s4 ((B.out.2.2.2.trans (Keeps.refl _ _).drew).trans k4))))
    have q8 := blk4 r4
    clear k4 s4 r3 r4
    go_wp2_with fail
    refine hK.out _ _ (fun _ => hD4) ?_
    clear hK K
    try simp only [Act.put, List.setIfInBounds_toArray, List.set_cons_zero, List.set_cons_succ]
    refine wpAnyG_onlyL (i := 7) (o := _) (by kernel_rfl) rfl (fun K hK => ?_)
    go_simp
    refine hK.out _ _ (fun _ => hD4) ?_
    clear hK K
    try simp only [Act.put, List.setIfInBounds_toArray, List.set_cons_zero, List.set_cons_succ]
    refine wpAnyG_onlyL (i := 8) (o := _) (by kernel_rfl) rfl (fun K hK => ?_)
    go_simp
    have k5 := keepV w4 (w.heap.size + 1 + 1) 2 (.slice p4 n4 c4)
    refine hK.out _ _ (fun _ => (k5.block _ (lt_of_heap hD4) (by omega)).trans hD4) ?_
    clear hK K
    try simp only [Act.put, List.setIfInBounds_toArray, List.set_cons_zero, List.set_cons_succ]
    refine wpAnyG_done (by kernel_rfl) ?_ _
    go_simp
    obtain ⟨w5, hw5⟩ : ∃ w5, w4.setCell ⟨w.heap.size + 1 + 1, 2, none⟩ (.slice p4 n4 c4) = w5 := ⟨_, rfl⟩
    have f5 := heap_setCell_same w4 (w.heap.size + 1 + 1) 2 _ _ (.slice p4 n4 c4) E.out.1
    have s5 := E.out.2.2.1.put_reg E.out.1 2 (.slice p4 n4 c4)
    rw [hw5] at k5 f5 s5 ⊢
    have r5 := (k5.block _ (lt_of_heap E.out.2.1) (by omega)).trans E.out.2.1
    have g5 : w5.heap[w.heap.size + 1 + 1]? = some (.cells #[.slice none 0 0, .slice none 0 0, .slice p4 n4 c4, .bool false] 102 (0, 0)) := by simpa using f5
    obtain ⟨F, gF, kF⟩ := putG r5 (r := oneR 3 L) ⟨SeesR.nil _, SeesR.nil _, s5⟩
    have Z := Lib.hid (And.intro gF ((E.out.2.2.2.then k5 (fun i hi e => absurd (show i = w.heap.size + 1 + 1 from e) (by omega))).then kF (fun i hi e => absurd (show i = w.heap.size + 1 from e) (by omega))))
    have FF := Lib.hid F
    have q9 := blk4 g5
    have q7 := blk4 r5
    clear q8 hw5 k5 f5 s5 r5 g5 F gF kF hD4
    go_wp2_with fail
    have Z9 := Z.out
    have F := FF.out
    clear Z FF
    obtain ⟨W9, hW9⟩ : ∃ W9, (((w5.setCell ⟨w.heap.size + 1, 0, none⟩ (.slice none 0 0)).setCell ⟨w.heap.size + 1, 1, none⟩ (.slice none 0 0)).setCell ⟨w.heap.size + 1, 2, none⟩ (.slice p4 n4 c4)).setCell ⟨w.heap.size + 1, 3, none⟩ (.bool false) = W9 := ⟨_, rfl⟩
    have hod : (oneR 3 L).odd = false := rfl
    rw [hod, hW9] at F Z9
    rw [hW9]
    have F4 := blk4 F
    exact bodyPost_ret (v := .tuple #[.agg #[.slice none 0 0, .slice none 0 0, .slice p4 n4 c4, .bool false], .int .i64 0]) (by simp [results, Tryz.results87, go_sem, F4]) rfl ⟨_, rfl, by rw [HR.out]; exact Z9.1, Z9.2⟩
end
end Go.Proofs.YtehmlaplodjenaaGreat
