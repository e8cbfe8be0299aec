/- DERIVED. cover: minus. -/
import Derived.Test.YtehmlaplodjenaaGreatZTopDual07
import Derived.Deep.DeepCutAuto
import Derived.Deep.CutRange
set_option maxRecDepth 100000
set_option maxHeartbeats 8000000
namespace Go.Proofs.YtehmlaplodjenaaGreat
section
open Go.RowKit
theorem Tryz.infoSpan : (Tryz.prog.info? 192).map (fun i => (i.zero, i.size, i.bytes)) = some (some (.agg #[.string ⟨#[]⟩, .bool false, .string ⟨#[]⟩, .bool false]), 4, 48) := by kernel_rfl
theorem put4 {w : World} {b : Nat} {t : TypeId} {a0 a1 a2 a3 : Value} (h : w.heap[b]? = some (.cells #[a0, a1, a2, a3] t (0, 0))) (v0 v1 v2 v3 : Value) : ((((w.setCell ⟨b, 0, none⟩ v0).setCell ⟨b, 1, none⟩ v1).setCell ⟨b, 2, none⟩ v2).setCell ⟨b, 3, none⟩ v3).heap[b]? = some (.cells #[v0, v1, v2, v3] t (0, 0)) := by
 have e1 := heap_setCell_same w b 0 _ _ v0 h
 have e2 := heap_setCell_same _ b 1 _ _ v1 e1
 have e3 := heap_setCell_same _ b 2 _ _ v2 e2
 have e4 := heap_setCell_same _ b 3 _ _ v3 e3
 simpa using e4
theorem keep44 (w : World) (b : Nat) (v0 v1 v2 v3 : Value) : Keeps (fun k => k = b) w ((((w.setCell ⟨b, 0, none⟩ v0).setCell ⟨b, 1, none⟩ v1).setCell ⟨b, 2, none⟩ v2).setCell ⟨b, 3, none⟩ v3) := ((keepV _ _ _ _).trans (keepV _ _ _ _)).trans ((keepV _ _ _ _).trans (keepV _ _ _ _))
theorem drew_heap (w : World) : w.drew.heap = w.heap := rfl
theorem two_put {W Wb : World} {b c : Nat} {t : TypeId} {z0 z1 z2 z3 y0 y1 y2 y3 : Value} (hne : b ≠ c) (hb : W.heap.size ≤ b) (hc : W.heap.size ≤ c) (o : Old W Wb) (fb : Wb.heap[b]? = some (.cells #[z0, z1, z2, z3] t (0, 0))) (fc : Wb.heap[c]? = some (.cells #[y0, y1, y2, y3] t (0, 0))) (v0 v1 v2 v3 : Value) :
  Old W ((((((((Wb.setCell ⟨b, 0, none⟩ v0).setCell ⟨b, 1, none⟩ v1).setCell ⟨b, 2, none⟩ v2).setCell ⟨b, 3, none⟩ v3).setCell ⟨c, 0, none⟩ v0).setCell ⟨c, 1, none⟩ v1).setCell ⟨c, 2, none⟩ v2).setCell ⟨c, 3, none⟩ v3).drew ∧
  ((((((((Wb.setCell ⟨b, 0, none⟩ v0).setCell ⟨b, 1, none⟩ v1).setCell ⟨b, 2, none⟩ v2).setCell ⟨b, 3, none⟩ v3).setCell ⟨c, 0, none⟩ v0).setCell ⟨c, 1, none⟩ v1).setCell ⟨c, 2, none⟩ v2).setCell ⟨c, 3, none⟩ v3).drew.heap[b]? = some (.cells #[v0, v1, v2, v3] t (0, 0)) ∧
  ((((((((Wb.setCell ⟨b, 0, none⟩ v0).setCell ⟨b, 1, none⟩ v1).setCell ⟨b, 2, none⟩ v2).setCell ⟨b, 3, none⟩ v3).setCell ⟨c, 0, none⟩ v0).setCell ⟨c, 1, none⟩ v1).setCell ⟨c, 2, none⟩ v2).setCell ⟨c, 3, none⟩ v3).drew.heap[c]? = some (.cells #[v0, v1, v2, v3] t (0, 0)) := by
 have k10 := keep44 Wb b v0 v1 v2 v3
 have p10 := put4 fb v0 v1 v2 v3
 have q11 := (k10.block _ (lt_of_heap fc) (fun e => hne e.symm)).trans fc
 generalize (((Wb.setCell ⟨b, 0, none⟩ v0).setCell ⟨b, 1, none⟩ v1).setCell ⟨b, 2, none⟩ v2).setCell ⟨b, 3, none⟩ v3 = X at k10 p10 q11 ⊢
 have k11 := keep44 X c v0 v1 v2 v3
 have p11 := put4 q11 v0 v1 v2 v3
 generalize (((X.setCell ⟨c, 0, none⟩ v0).setCell ⟨c, 1, none⟩ v1).setCell ⟨c, 2, none⟩ v2).setCell ⟨c, 3, none⟩ v3 = Y at k11 p11 ⊢
 rw [drew_heap]
 exact ⟨((o.then k10 (fun i hi e => by omega)).then k11 (fun i hi e => by omega)).drew, (k11.block _ (lt_of_heap p10) hne).trans p10, p11⟩
structure MB (bo b9 b10 b11 : Nat) (o1 o2 o3 o4 s1 s2 s3 s4 x1 x2 x3 x4 y1 y2 y3 y4 : Value) (W : World) : Prop where
 o : W.heap[bo]? = some (.cells #[o1, o2, o3, o4] 192 (0, 0))
 s : W.heap[b9]? = some (.cells #[s1, s2, s3, s4] 192 (0, 0))
 x : W.heap[b10]? = some (.cells #[x1, x2, x3, x4] 192 (0, 0))
 y : W.heap[b11]? = some (.cells #[y1, y2, y3, y4] 192 (0, 0))
section
variable {bo b9 b10 b11 : Nat} {o1 o2 o3 o4 s1 s2 s3 s4 x1 x2 x3 x4 y1 y2 y3 y4 : Value} {W W' : World}
theorem MB.to (h : MB bo b9 b10 b11 o1 o2 o3 o4 s1 s2 s3 s4 x1 x2 x3 x4 y1 y2 y3 y4 W) (k : Old W W') : MB bo b9 b10 b11 o1 o2 o3 o4 s1 s2 s3 s4 x1 x2 x3 x4 y1 y2 y3 y4 W' :=
 ⟨(k.block _ (lt_of_heap h.o) (fun f => f)).trans h.o, (k.block _ (lt_of_heap h.s) (fun f => f)).trans h.s, (k.block _ (lt_of_heap h.x) (fun f => f)).trans h.x, (k.block _ (lt_of_heap h.y) (fun f => f)).trans h.y⟩
theorem MB.hi10 (h : MB bo b9 b10 b11 o1 o2 o3 o4 s1 s2 s3 s4 x1 x2 x3 x4 y1 y2 y3 y4 W) (n1 : bo ≠ b10) (n2 : b9 ≠ b10) (n3 : b10 ≠ b11) (v v' : Value) : MB bo b9 b10 b11 o1 o2 o3 o4 s1 s2 s3 s4 x1 x2 v v' y1 y2 y3 y4 ((W.setCell ⟨b10, 2, none⟩ v).setCell ⟨b10, 3, none⟩ v') := by
 have k := (keepV W b10 2 v).trans (keepV _ b10 3 v')
 have e1 := heap_setCell_same W b10 2 _ _ v h.x
 have e2 := heap_setCell_same _ b10 3 _ _ v' e1
 exact ⟨(k.block _ (lt_of_heap h.o) n1).trans h.o, (k.block _ (lt_of_heap h.s) n2).trans h.s, by simpa using e2, (k.block _ (lt_of_heap h.y) (fun e => n3 e.symm)).trans h.y⟩
theorem MB.lo11 (h : MB bo b9 b10 b11 o1 o2 o3 o4 s1 s2 s3 s4 x1 x2 x3 x4 y1 y2 y3 y4 W) (n1 : bo ≠ b11) (n2 : b9 ≠ b11) (n3 : b10 ≠ b11) (v v' : Value) : MB bo b9 b10 b11 o1 o2 o3 o4 s1 s2 s3 s4 x1 x2 x3 x4 v v' y3 y4 ((W.setCell ⟨b11, 0, none⟩ v).setCell ⟨b11, 1, none⟩ v') := by
 have k := (keepV W b11 0 v).trans (keepV _ b11 1 v')
 have e1 := heap_setCell_same W b11 0 _ _ v h.y
 have e2 := heap_setCell_same _ b11 1 _ _ v' e1
 exact ⟨(k.block _ (lt_of_heap h.o) n1).trans h.o, (k.block _ (lt_of_heap h.s) n2).trans h.s, (k.block _ (lt_of_heap h.x) n3).trans h.x, by simpa using e2⟩
end
theorem Rise.take {l : List Span} (h : Rise l) (n : Nat) : Rise (l.take n) := ⟨fun s hs => h.1 s (List.mem_of_mem_take hs), h.2.sublist (List.take_sublist n l)⟩
theorem minus1_take {o : Span} {l : List Span} {i : Nat} {s : Span} (h : l[i]? = some s) : minus1 o (l.take (i + 1)) = minus1 o (l.take i) ++ cutOut o s := by
 unfold minus1
 rw [List.take_add_one, h, List.flatMap_append]
 simp
theorem minusL_take {l m : List Span} {j : Nat} {o : Span} (h : m[j]? = some o) : minusL l (m.take (j + 1)) = minus1 o (minusL l (m.take j)) := by
 unfold minusL
 rw [List.take_add_one, h, List.foldl_append]
 rfl
theorem minus_any (v1 v2 : Value) (l m : List Span) (w : World) (h1 : SeesR w 4 spanL v1 l) (h2 : SeesR w 4 spanL v2 m) (hr : Rise l) (hm : ∀ o ∈ m, SpanOk o) (hl : l.length + m.length ≤ 100000) :
  Calls Tryz.prog 144 #[v1, v2] w fun e w' => ∃ p n c, e = .returned (.slice p n c) ∧ SeesR w' 4 spanL (.slice p n c) (minusL l m) ∧ Old w w' := by
 obtain ⟨p1, c1, rfl, _, _⟩ := h1.len
 obtain ⟨p2, c2, rfl, _, _⟩ := h2.len
 have H := Lib.hid (And.intro h1 (And.intro h2 (And.intro hr hm)))
 have hm9 : m.length ≤ 9223372036854775807 := by omega
 clear h1 h2 hr hm
 go_enter Tryz.func144, Tryz.ntmps144
 go_wp2_with fail
 go_loopw [0, 16] (fun v0 v16 wr => ∃ j : Nat, j ≤ m.length ∧ v16 = .int .i64 j ∧ SeesR wr 4 spanL v0 (minusL l (m.take j)) ∧ Old w wr) (fun _ v16 _ => m.length - (intOf v16).toNat)
 case atStart => exact ⟨0, Nat.zero_le _, rfl, H.out.1, Keeps.refl _ _⟩
 case round =>
  obtain ⟨j, hj, rfl, hs, hk⟩ := hrel
  obtain ⟨cur, hcur⟩ : ∃ cur, minusL l (m.take j) = cur := ⟨_, rfl⟩
  rw [hcur] at hs
  have hrise := minusL_rise (m.take j) (l := l) (fun o ho => H.out.2.2.2 o (List.mem_of_mem_take ho)) H.out.2.2.1
  rw [hcur, List.length_take] at hrise
  obtain ⟨pc, cc, rfl, _, _⟩ := hs.len
  by_cases hlt : j < m.length
  ·have hcl : cur.length ≤ 100000 := by have := hrise.2; omega
   obtain ⟨bm, om, cm, he, _, _, hc⟩ := H.out.2.1.at (by omega)
   simp only [Value.slice.injEq, true_and] at he
   obtain ⟨rfl, rfl⟩ := he
   obtain ⟨o, ho⟩ : ∃ o, m[j]? = some o := ⟨_, List.getElem?_eq_getElem hlt⟩
   have hoo : SpanOk o := H.out.2.2.2 o (List.mem_of_getElem? ho)
   have hnext := minusL_take (l := l) ho
   rw [hcur] at hnext
   obtain ⟨⟨oa, oe⟩, ob, of⟩ := o
   have x0 := hk.cell (hc j _ ho 0 _ rfl) (fun f => f)
   have x1 := hk.cell (hc j _ ho 1 _ rfl) (fun f => f)
   have x2 := hk.cell (hc j _ ho 2 _ rfl) (fun f => f)
   have x3 := hk.cell (hc j _ ho 3 _ rfl) (fun f => f)
   simp only [Nat.add_zero] at x0
   obtain ⟨W1, hW1⟩ : ∃ W1, wr.alloc (.cells #[.string oa, .bool oe, .string ob, .bool of] 192) = W1 := ⟨_, rfl⟩
   have o1 : Old wr W1 := by rw [← hW1]; exact (Keeps.refl _ _).alloc _
   have b1 : W1.heap[wr.heap.size]? = some (.cells #[.string oa, .bool oe, .string ob, .bool of] 192 (0, 0)) := by rw [← hW1]; exact heap_alloc_new _ _
   have HW1 := Lib.hid hW1
   obtain ⟨bo, hbo⟩ : ∃ bo, wr.heap.size = bo := ⟨_, rfl⟩
   rw [hbo] at b1
   have HBO := Lib.hid hbo
   have G := Lib.hid (And.intro (hs.old o1) (And.intro (hk.trans o1) (And.intro b1 (And.intro hrise.1 (And.intro hoo hnext)))))
   have hcl9 : cur.length ≤ 9223372036854775807 := by omega
   go_upto_region 4 with fail
   clear hs hk hcur hrise hc ho hoo hnext x0 x1 x2 x3 o1 b1 hW1 hbo
   go_wp2_with fail
   obtain ⟨wo, hwo⟩ : ∃ wo : World, wo = W1 := ⟨_, rfl⟩
   subst hwo
   go_loopw [7, 22] (fun v7 v22 wq => ∃ i : Nat, i ≤ cur.length ∧ v22 = .int .i64 i ∧ OwnsR wq wo.heap.size 192 4 spanL v7 (minus1 (⟨oa, oe⟩, ⟨ob, of⟩) (cur.take i)) ∧ Old wo wq) (fun _ v22 _ => cur.length - (intOf v22).toNat)
   case atStart => exact ⟨0, Nat.zero_le _, rfl, OwnsR.nil _ _, Keeps.refl _ _⟩
   case round =>
    obtain ⟨wq, hwq0⟩ : ∃ wq : World, wq = wr := ⟨_, rfl⟩
    subst hwq0
    obtain ⟨i, hi, rfl, hon, hq⟩ := hrel
    by_cases hlt2 : i < cur.length
    ·obtain ⟨bs, os, cs, he, _, _, hc⟩ := G.out.1.at (by omega)
     simp only [Value.slice.injEq, true_and] at he
     obtain ⟨rfl, rfl⟩ := he
     obtain ⟨s, hs⟩ : ∃ s, cur[i]? = some s := ⟨_, List.getElem?_eq_getElem hlt2⟩
     have hnx := minus1_take (o := (⟨oa, oe⟩, ⟨ob, of⟩)) hs
     obtain ⟨⟨sa, se⟩, sb, sf⟩ := s
     have x0 := hq.cell (hc i _ hs 0 _ rfl) (fun f => f)
     have x1 := hq.cell (hc i _ hs 1 _ rfl) (fun f => f)
     have x2 := hq.cell (hc i _ hs 2 _ rfl) (fun f => f)
     have x3 := hq.cell (hc i _ hs 3 _ rfl) (fun f => f)
     simp only [Nat.add_zero] at x0
     obtain ⟨W2, hW2⟩ : ∃ W2, wq.alloc (.cells #[.string sa, .bool se, .string sb, .bool sf] 192) = W2 := ⟨_, rfl⟩
     have o2 : Old wq W2 := by rw [← hW2]; exact (Keeps.refl _ _).alloc _
     have b2 : W2.heap[wq.heap.size]? = some (.cells #[.string sa, .bool se, .string sb, .bool sf] 192 (0, 0)) := by rw [← hW2]; exact heap_alloc_new _ _
     have HW2 := Lib.hid hW2
     obtain ⟨b9, hb9⟩ : ∃ b9, wq.heap.size = b9 := ⟨_, rfl⟩
     rw [hb9] at b2
     have hwq := hq.size
     have hsz2 : b9 < W2.heap.size := lt_of_heap b2
     have Q := Lib.hid (And.intro (hon.old o2) (And.intro (hq.trans o2) (And.intro b2 (And.intro (((hq.trans o2).block _ (lt_of_heap G.out.2.2.1) (fun f => f)).trans G.out.2.2.1) (And.intro hnx (And.intro (lt_of_heap G.out.2.2.1) (And.intro (show wo.heap.size ≤ b9 by omega) hon)))))))
     go_upto_region 8 with fail
     clear hon hq hs hnx x0 x1 x2 x3 o2 hW2 hb9 hc hwq hsz2
     have D1 : W2.drew.heap[b9]? = some (.cells #[.string sa, .bool se, .string sb, .bool sf] 192 (0, 0)) := Q.out.2.2.1
     go_cut [10, 11] from 26 to 35 (fun v10 v11 wc => ∃ b10 b11 wx, wx = wc ∧ v10 = .pointer (some ⟨b10, 0, none⟩) ∧ v11 = .pointer (some ⟨b11, 0, none⟩) ∧ b10 ≠ b11 ∧ W2.heap.size ≤ b10 ∧ W2.heap.size ≤ b11 ∧ Old W2 wx ∧
      wx.heap[b10]? = some (.cells #[.string sa, .bool se, .string sb, .bool sf] 192 (0, 0)) ∧ wx.heap[b11]? = some (.cells #[.string sa, .bool se, .string sb, .bool sf] 192 (0, 0)))
     case first =>
      refine wp_region_g (S := fun W => W.heap[b9]? = some (.cells #[.string sa, .bool se, .string sb, .bool sf] 192 (0, 0))) (M := [0, 1, 2, 3, 4, 5, 6, 7, 8, 9, 10, 11, 12]) (by kernel_rfl) ?_
      refine tkG (i := 0) (v := ?vm0) ?ym0 D1 ?rm0
      case ym0 => (intro W hSw; go_simp; try with_reducible rfl)
      try simp only [Act.put, List.setIfInBounds_toArray, List.set_cons_zero, List.set_cons_succ]
      refine tkG (i := 1) (v := ?vm1) ?ym1 D1 ?rm1
      case ym1 => (intro W hSw; have q := blk4 hSw; go_simp; try with_reducible rfl)
      try simp only [Act.put, List.setIfInBounds_toArray, List.set_cons_zero, List.set_cons_succ]
      refine tkG (i := 2) (v := ?vm2) ?ym2 D1 ?rm2
      case ym2 => (intro W hSw; go_simp; try with_reducible rfl)
      try simp only [Act.put, List.setIfInBounds_toArray, List.set_cons_zero, List.set_cons_succ]
      refine tkG (i := 3) (v := ?vm3) ?ym3 D1 ?rm3
      case ym3 => (intro W hSw; have q := blk4 hSw; go_simp; try with_reducible rfl)
      try simp only [Act.put, List.setIfInBounds_toArray, List.set_cons_zero, List.set_cons_succ]
      refine tkG (i := 4) (v := ?vm4) ?ym4 D1 ?rm4
      case ym4 => (intro W hSw; go_simp; try with_reducible rfl)
      try simp only [Act.put, List.setIfInBounds_toArray, List.set_cons_zero, List.set_cons_succ]
      refine tkG (i := 5) (v := ?vm5) ?ym5 D1 ?rm5
      case ym5 => (intro W hSw; go_simp; try with_reducible rfl)
      try simp only [Act.put, List.setIfInBounds_toArray, List.set_cons_zero, List.set_cons_succ]
      refine tkG (i := 6) (v := ?vm6) ?ym6 D1 ?rm6
      case ym6 => (intro W hSw; have q := blk4 hSw; go_simp; try with_reducible rfl)
      try simp only [Act.put, List.setIfInBounds_toArray, List.set_cons_zero, List.set_cons_succ]
      refine tkG (i := 7) (v := ?vm7) ?ym7 D1 ?rm7
      case ym7 => (intro W hSw; go_simp; try with_reducible rfl)
      try simp only [Act.put, List.setIfInBounds_toArray, List.set_cons_zero, List.set_cons_succ]
      refine tkG (i := 8) (v := ?vm8) ?ym8 D1 ?rm8
      case ym8 => (intro W hSw; have q := blk4 hSw; go_simp; try with_reducible rfl)
      try simp only [Act.put, List.setIfInBounds_toArray, List.set_cons_zero, List.set_cons_succ]
      refine tkG (i := 9) (v := ?vm9) ?ym9 D1 ?rm9
      case ym9 => (intro W hSw; go_simp; try with_reducible rfl)
      try simp only [Act.put, List.setIfInBounds_toArray, List.set_cons_zero, List.set_cons_succ]
      refine wpAnyG_ready (rs := [10, 11]) (by kernel_rfl) (by simp) ?_
      refine AllReadyG.cons (o := _) rfl (fun K hK => ?_) (AllReadyG.cons (o := _) rfl (fun K hK => ?_) AllReadyG.nil)
      ·go_simp
       refine hK.out _ _ (fun _ => ((Keeps.refl (fun _ => False) W2).alloc _).block _ (lt_of_heap D1) (fun f => f) |>.trans D1) ?_
       clear hK K
       try simp only [Act.put, List.setIfInBounds_toArray, List.set_cons_zero, List.set_cons_succ]
       refine wpAnyG_onlyL (i := 11) (o := _) (by kernel_rfl) rfl (fun K hK => ?_)
       go_simp
       obtain ⟨f1, f2⟩ := two_blocks W2 (.cells #[.string ⟨#[]⟩, .bool false, .string ⟨#[]⟩, .bool false] 192) (.cells #[.string ⟨#[]⟩, .bool false, .string ⟨#[]⟩, .bool false] 192)
       obtain ⟨Wb, hWb⟩ : ∃ Wb, (W2.alloc (.cells #[.string ⟨#[]⟩, .bool false, .string ⟨#[]⟩, .bool false] 192)).alloc (.cells #[.string ⟨#[]⟩, .bool false, .string ⟨#[]⟩, .bool false] 192) = Wb := ⟨_, rfl⟩
       rw [hWb] at f1 f2 ⊢
       have ob2 : Old W2 Wb := by rw [← hWb]; exact ((Keeps.refl _ _).alloc _).alloc _
       obtain ⟨b10, hb10⟩ : ∃ b, W2.heap.size = b := ⟨_, rfl⟩
       obtain ⟨b11, hb11⟩ : ∃ b, W2.heap.size + 1 = b := ⟨_, rfl⟩
       have hne : b10 ≠ b11 := by omega
       have hne' : b11 ≠ b10 := by omega
       have g10 : W2.heap.size ≤ b10 := by omega
       have g11 : W2.heap.size ≤ b11 := by omega
       have h9 : b9 < W2.heap.size := lt_of_heap D1
       rw [hb11] at f2 ⊢
       rw [hb10] at f1 ⊢
       have T := Lib.hid (And.intro hne (And.intro g10 (And.intro g11 (And.intro ob2 (And.intro f1 f2)))))
       have q10 := blk4 f1
       have q11 := blk4 f2
       have D2 : Wb.drew.heap[b9]? = some (.cells #[.string sa, .bool se, .string sb, .bool sf] 192 (0, 0)) := (ob2.block _ h9 (fun f => f)).trans D1
       clear hb10 hb11 hWb f1 f2 ob2 g10 g11
       refine hK.out _ _ (fun _ => D2) ?_
       clear hK K
       try simp only [Act.put, List.setIfInBounds_toArray, List.set_cons_zero, List.set_cons_succ]
       refine wpAnyG_onlyL (i := 12) (o := _) (by kernel_rfl) rfl (fun K hK => ?_)
       go_simp
       refine hK.out _ _ (fun _ => ((keep44 Wb b10 _ _ _ _).block _ (lt_of_heap D2) (by have := T.out.2.1; omega)).trans D2) ?_
       clear hK K
       try simp only [Act.put, List.setIfInBounds_toArray, List.set_cons_zero, List.set_cons_succ]
       refine wpAnyG_onlyL (i := 13) (o := _) (by kernel_rfl) rfl (fun K hK => ?_)
       go_simp
       refine hK.out _ _ (fun h => absurd h (by decide)) ?_
       clear hK K
       try simp only [Act.put, List.setIfInBounds_toArray, List.set_cons_zero, List.set_cons_succ]
       refine wpAnyG_done (by kernel_rfl) ?_ _
       go_simp
       go_wp2_with fail
       go_meet
       case rel =>
        exact ⟨b10, b11, _, rfl, rfl, rfl, T.out.1, T.out.2.1, T.out.2.2.1, two_put T.out.1 T.out.2.1 T.out.2.2.1 T.out.2.2.2.1 T.out.2.2.2.2.1 T.out.2.2.2.2.2 _ _ _ _⟩
      ·go_simp
       refine hK.out _ _ (fun _ => ((Keeps.refl (fun _ => False) W2).alloc _).block _ (lt_of_heap D1) (fun f => f) |>.trans D1) ?_
       clear hK K
       try simp only [Act.put, List.setIfInBounds_toArray, List.set_cons_zero, List.set_cons_succ]
       refine wpAnyG_onlyL (i := 10) (o := _) (by kernel_rfl) rfl (fun K hK => ?_)
       go_simp
       obtain ⟨f1, f2⟩ := two_blocks W2 (.cells #[.string ⟨#[]⟩, .bool false, .string ⟨#[]⟩, .bool false] 192) (.cells #[.string ⟨#[]⟩, .bool false, .string ⟨#[]⟩, .bool false] 192)
       obtain ⟨Wb, hWb⟩ : ∃ Wb, (W2.alloc (.cells #[.string ⟨#[]⟩, .bool false, .string ⟨#[]⟩, .bool false] 192)).alloc (.cells #[.string ⟨#[]⟩, .bool false, .string ⟨#[]⟩, .bool false] 192) = Wb := ⟨_, rfl⟩
       rw [hWb] at f1 f2 ⊢
       have ob2 : Old W2 Wb := by rw [← hWb]; exact ((Keeps.refl _ _).alloc _).alloc _
       obtain ⟨b10, hb10⟩ : ∃ b, W2.heap.size + 1 = b := ⟨_, rfl⟩
       obtain ⟨b11, hb11⟩ : ∃ b, W2.heap.size = b := ⟨_, rfl⟩
       have hne : b10 ≠ b11 := by omega
       have hne' : b11 ≠ b10 := by omega
       have g10 : W2.heap.size ≤ b10 := by omega
       have g11 : W2.heap.size ≤ b11 := by omega
       have h9 : b9 < W2.heap.size := lt_of_heap D1
       rw [hb10] at f2 ⊢
       rw [hb11] at f1 ⊢
       have T := Lib.hid (And.intro hne (And.intro g10 (And.intro g11 (And.intro ob2 (And.intro f2 f1)))))
       have q10 := blk4 f2
       have q11 := blk4 f1
       have D2 : Wb.drew.heap[b9]? = some (.cells #[.string sa, .bool se, .string sb, .bool sf] 192 (0, 0)) := (ob2.block _ h9 (fun f => f)).trans D1
       clear hb10 hb11 hWb f1 f2 ob2 g10 g11
       refine hK.out _ _ (fun _ => D2) ?_
       clear hK K
       try simp only [Act.put, List.setIfInBounds_toArray, List.set_cons_zero, List.set_cons_succ]
       refine wpAnyG_onlyL (i := 12) (o := _) (by kernel_rfl) rfl (fun K hK => ?_)
       go_simp
       refine hK.out _ _ (fun _ => ((keep44 Wb b10 _ _ _ _).block _ (lt_of_heap D2) (by have := T.out.2.1; omega)).trans D2) ?_
       clear hK K
       try simp only [Act.put, List.setIfInBounds_toArray, List.set_cons_zero, List.set_cons_succ]
       refine wpAnyG_onlyL (i := 13) (o := _) (by kernel_rfl) rfl (fun K hK => ?_)
       go_simp
       refine hK.out _ _ (fun h => absurd h (by decide)) ?_
       clear hK K
       try simp only [Act.put, List.setIfInBounds_toArray, List.set_cons_zero, List.set_cons_succ]
       refine wpAnyG_done (by kernel_rfl) ?_ _
       go_simp
       go_wp2_with fail
       go_meet
       case rel =>
        exact ⟨b10, b11, _, rfl, rfl, rfl, T.out.1, T.out.2.1, T.out.2.2.1, two_put T.out.1 T.out.2.1 T.out.2.2.1 T.out.2.2.2.1 T.out.2.2.2.2.1 T.out.2.2.2.2.2 _ _ _ _⟩
     case rest =>
      obtain ⟨b10, b11, wx, hwx, rfl, rfl, hne, g10, g11, ox, h10, h11⟩ := hcut
      subst hwx
      have hz9 : b9 < W2.heap.size := lt_of_heap Q.out.2.2.1
      have hzo : bo < W2.heap.size := lt_of_heap Q.out.2.2.2.1
      have D := Lib.hid (And.intro hne (And.intro g10 (And.intro g11 (And.intro (show bo ≠ b10 by omega) (And.intro (show b9 ≠ b10 by omega) (And.intro (show bo ≠ b11 by omega) (show b9 ≠ b11 by omega)))))))
      clear hne g10 g11 hz9 hzo D1
      have L1 := Lib.hid (fun W => less_any ⟨oa, oe⟩ ⟨sb, sf⟩ W)
      have L2 := Lib.hid (fun W => less_any ⟨sa, se⟩ ⟨ob, of⟩ W)
      unfold Cut.cells at L1 L2
      simp only at L1 L2
      cases hc1 : lessC ⟨oa, oe⟩ ⟨sb, sf⟩ <;> cases hc2 : lessC ⟨sa, se⟩ ⟨ob, of⟩ <;> rw [hc1] at L1 <;> rw [hc2] at L2 <;> (have HC := Lib.hid (And.intro hc1 hc2)) <;> clear hc1 hc2
      ·have M0 : MB bo b9 b10 b11 (.string oa) (.bool oe) (.string ob) (.bool of) (.string sa) (.bool se) (.string sb) (.bool sf) (.string sa) (.bool se) (.string sb) (.bool sf) (.string sa) (.bool se) (.string sb) (.bool sf) wx := ⟨(ox.block _ (lt_of_heap Q.out.2.2.2.1) (fun f => f)).trans Q.out.2.2.2.1, (ox.block _ (lt_of_heap Q.out.2.2.1) (fun f => f)).trans Q.out.2.2.1, h10, h11⟩
       obtain ⟨m1, m2, m3, m4⟩ := M0
       have r1 := blk4 m1
       have r2 := blk4 m2
       have r3 := blk4 m3
       have r4 := blk4 m4
       have P0 := Lib.hid (And.intro (show MB bo b9 b10 b11 (.string oa) (.bool oe) (.string ob) (.bool of) (.string sa) (.bool se) (.string sb) (.bool sf) (.string sa) (.bool se) (.string sb) (.bool sf) (.string sa) (.bool se) (.string sb) (.bool sf) wx from ⟨m1, m2, m3, m4⟩) ox)
       clear m1 m2 m3 m4 ox h10 h11
       go_wp2_with fail
       refine (L1.out wx).mono ?_
       rintro e y1 ⟨rfl, k1⟩
       have P1 := Lib.hid (And.intro (P0.out.1.to k1) (P0.out.2.trans k1))
       clear k1 r1 r2 r3 r4
       obtain ⟨m1, m2, m3, m4⟩ := P1.out.1
       have r1 := blk4 m1
       have r2 := blk4 m2
       have r3 := blk4 m3
       have r4 := blk4 m4
       clear m1 m2 m3 m4
       go_upto_region 11 with fail
       have P2 := Lib.hid P1.out
       obtain ⟨y2, hy2⟩ : ∃ y2, y1 = y2 := ⟨_, rfl⟩
       subst hy2
       clear r1 r2 r3 r4
       obtain ⟨m1, m2, m3, m4⟩ := P2.out.1
       have r1 := blk4 m1
       have r2 := blk4 m2
       have r3 := blk4 m3
       have r4 := blk4 m4
       clear m1 m2 m3 m4
       go_wp2_with fail
       refine (L2.out y1).mono ?_
       rintro e y3 ⟨rfl, k3⟩
       have P3 := Lib.hid (And.intro (P2.out.1.to k3) (P2.out.2.trans k3))
       clear k3 r1 r2 r3 r4
       obtain ⟨m1, m2, m3, m4⟩ := P3.out.1
       have r1 := blk4 m1
       have r2 := blk4 m2
       have r3 := blk4 m3
       have r4 := blk4 m4
       clear m1 m2 m3 m4
       go_upto_region 13 with fail
       have P4 := Lib.hid P3.out
       clear r1 r2 r3 r4
       obtain ⟨m1, m2, m3, m4⟩ := P4.out.1
       have r1 := blk4 m1
       have r2 := blk4 m2
       have r3 := blk4 m3
       have r4 := blk4 m4
       clear m1 m2 m3 m4
       go_wp2_with fail
       refine (L1.out y3).mono ?_
       rintro e y5 ⟨rfl, k5⟩
       have P5 := Lib.hid (And.intro (P4.out.1.to k5) (P4.out.2.trans k5))
       clear k5 r1 r2 r3 r4
       obtain ⟨m1, m2, m3, m4⟩ := P5.out.1
       have r1 := blk4 m1
       have r2 := blk4 m2
       have r3 := blk4 m3
       have r4 := blk4 m4
       clear m1 m2 m3 m4
       have HO := Lib.hid (Q.out.1.old P5.out.2)
       have SN := Lib.hid (SeesR.new (k := 4) (enc := spanL) y5 192 (0, 0) [(((⟨sa, se⟩, ⟨sb, sf⟩)) : Span)] #[.string sa, .bool se, .string sb, .bool sf] (by simp [spanL]) (fun _ => rfl) (by unfold maxLen; simp))
       have hln := minus1_len G.out.2.2.2.2.1 (G.out.2.2.2.1.take i)
       have hwz : wo.heap.size ≤ y5.heap.size := Nat.le_trans Q.out.2.1.size P5.out.2.size
       rw [List.length_take] at hln
       have HN := Lib.hid (show (minus1 (⟨oa, oe⟩, ⟨ob, of⟩) (cur.take i)).length + 1 ≤ maxLen ∧ ((minus1 (⟨oa, oe⟩, ⟨ob, of⟩) (cur.take i)).length + 1) * 48 ≤ 140737488355328 ∧ wo.heap.size ≤ (y5.alloc (.cells #[.string sa, .bool se, .string sb, .bool sf] 192)).heap.size from ⟨by unfold maxLen; omega, by omega, by simp; omega⟩)
       clear hln hwz
       go_wp2_with (at_builtin; go_loud (refine wpList_append_rows (P := Tryz.prog) rfl _ _ 99 rfl wo.heap.size 192 4 48 spanL _ Tryz.underlying99 Tryz.infoSpan rfl (by decide) u7 (minus1 (⟨oa, oe⟩, ⟨ob, of⟩) (cur.take i)) rfl (HO.out.alloc _) _ [(((⟨sa, se⟩, ⟨sb, sf⟩)) : Span)] rfl SN.out (by simp [spanL]) (by simp [spanL, Value.oneCell']) HN.out.1 HN.out.2.1 HN.out.2.2 ?_; intro v7 w7 ho7 hg7 _))
       have R := Lib.hid (And.intro ho7 ((Q.out.2.1.trans (P5.out.2.alloc _)).grown hg7 (fun k e hlt => by have := HO.out.block k e; omega)))
       clear ho7 hg7 r1 r2 r3 r4
       go_roundw
       case rel => exact ⟨i + 1, by omega, by go_num, by rw [Q.out.2.2.2.2.1, show cutOut (⟨oa, oe⟩, ⟨ob, of⟩) (⟨sa, se⟩, ⟨sb, sf⟩) = [((⟨sa, se⟩, ⟨sb, sf⟩) : Span)] from if_pos (by rw [HC.out.1, HC.out.2]; rfl)]; exact R.out.1, R.out.2⟩
       case measure => simp [intOf]; omega
      ·have M0 : MB bo b9 b10 b11 (.string oa) (.bool oe) (.string ob) (.bool of) (.string sa) (.bool se) (.string sb) (.bool sf) (.string sa) (.bool se) (.string sb) (.bool sf) (.string sa) (.bool se) (.string sb) (.bool sf) wx := ⟨(ox.block _ (lt_of_heap Q.out.2.2.2.1) (fun f => f)).trans Q.out.2.2.2.1, (ox.block _ (lt_of_heap Q.out.2.2.1) (fun f => f)).trans Q.out.2.2.1, h10, h11⟩
       obtain ⟨m1, m2, m3, m4⟩ := M0
       have r1 := blk4 m1
       have r2 := blk4 m2
       have r3 := blk4 m3
       have r4 := blk4 m4
       have P0 := Lib.hid (And.intro (show MB bo b9 b10 b11 (.string oa) (.bool oe) (.string ob) (.bool of) (.string sa) (.bool se) (.string sb) (.bool sf) (.string sa) (.bool se) (.string sb) (.bool sf) (.string sa) (.bool se) (.string sb) (.bool sf) wx from ⟨m1, m2, m3, m4⟩) ox)
       clear m1 m2 m3 m4 ox h10 h11
       go_wp2_with fail
       refine (L1.out wx).mono ?_
       rintro e y1 ⟨rfl, k1⟩
       have P1 := Lib.hid (And.intro (P0.out.1.to k1) (P0.out.2.trans k1))
       clear k1 r1 r2 r3 r4
       obtain ⟨m1, m2, m3, m4⟩ := P1.out.1
       have r1 := blk4 m1
       have r2 := blk4 m2
       have r3 := blk4 m3
       have r4 := blk4 m4
       clear m1 m2 m3 m4
       go_upto_region 11 with fail
       have P2 := Lib.hid P1.out
       obtain ⟨y2, hy2⟩ : ∃ y2, y1 = y2 := ⟨_, rfl⟩
       subst hy2
       clear r1 r2 r3 r4
       obtain ⟨m1, m2, m3, m4⟩ := P2.out.1
       have r1 := blk4 m1
       have r2 := blk4 m2
       have r3 := blk4 m3
       have r4 := blk4 m4
       clear m1 m2 m3 m4
       go_wp2_with fail
       refine (L2.out y1).mono ?_
       rintro e y3 ⟨rfl, k3⟩
       have P3 := Lib.hid (And.intro (P2.out.1.to k3) (P2.out.2.trans k3))
       clear k3 r1 r2 r3 r4
       obtain ⟨m1, m2, m3, m4⟩ := P3.out.1
       have r1 := blk4 m1
       have r2 := blk4 m2
       have r3 := blk4 m3
       have r4 := blk4 m4
       clear m1 m2 m3 m4
       go_upto_region 13 with fail
       have P4 := Lib.hid (And.intro (P3.out.1.lo11 D.out.2.2.2.2.2.1 D.out.2.2.2.2.2.2 D.out.1 (.string ob) (.bool of)) (P3.out.2.then ((keepV y3 b11 0 (.string ob)).trans (keepV _ b11 1 (.bool of))) (fun i hi e => by have := D.out.2.2.1; omega)))
       obtain ⟨y4, hy4⟩ : ∃ y4, (y3.setCell ⟨b11, 0, none⟩ (.string ob)).setCell ⟨b11, 1, none⟩ (.bool of) = y4 := ⟨_, rfl⟩
       rw [hy4] at P4 ⊢
       clear hy4
       clear r1 r2 r3 r4
       obtain ⟨m1, m2, m3, m4⟩ := P4.out.1
       have r1 := blk4 m1
       have r2 := blk4 m2
       have r3 := blk4 m3
       have r4 := blk4 m4
       clear m1 m2 m3 m4
       go_wp2_with fail
       refine (L1.out y4).mono ?_
       rintro e y5 ⟨rfl, k5⟩
       have P5 := Lib.hid (And.intro (P4.out.1.to k5) (P4.out.2.trans k5))
       clear k5 r1 r2 r3 r4
       obtain ⟨m1, m2, m3, m4⟩ := P5.out.1
       have r1 := blk4 m1
       have r2 := blk4 m2
       have r3 := blk4 m3
       have r4 := blk4 m4
       clear m1 m2 m3 m4
       have HO := Lib.hid (Q.out.1.old P5.out.2)
       have SN := Lib.hid (SeesR.new (k := 4) (enc := spanL) y5 192 (0, 0) [(((⟨sa, se⟩, ⟨sb, sf⟩)) : Span)] #[.string sa, .bool se, .string sb, .bool sf] (by simp [spanL]) (fun _ => rfl) (by unfold maxLen; simp))
       have hln := minus1_len G.out.2.2.2.2.1 (G.out.2.2.2.1.take i)
       have hwz : wo.heap.size ≤ y5.heap.size := Nat.le_trans Q.out.2.1.size P5.out.2.size
       rw [List.length_take] at hln
       have HN := Lib.hid (show (minus1 (⟨oa, oe⟩, ⟨ob, of⟩) (cur.take i)).length + 1 ≤ maxLen ∧ ((minus1 (⟨oa, oe⟩, ⟨ob, of⟩) (cur.take i)).length + 1) * 48 ≤ 140737488355328 ∧ wo.heap.size ≤ (y5.alloc (.cells #[.string sa, .bool se, .string sb, .bool sf] 192)).heap.size from ⟨by unfold maxLen; omega, by omega, by simp; omega⟩)
       clear hln hwz
       go_wp2_with (at_builtin; go_loud (refine wpList_append_rows (P := Tryz.prog) rfl _ _ 99 rfl wo.heap.size 192 4 48 spanL _ Tryz.underlying99 Tryz.infoSpan rfl (by decide) u7 (minus1 (⟨oa, oe⟩, ⟨ob, of⟩) (cur.take i)) rfl (HO.out.alloc _) _ [(((⟨sa, se⟩, ⟨sb, sf⟩)) : Span)] rfl SN.out (by simp [spanL]) (by simp [spanL, Value.oneCell']) HN.out.1 HN.out.2.1 HN.out.2.2 ?_; intro v7 w7 ho7 hg7 _))
       have R := Lib.hid (And.intro ho7 ((Q.out.2.1.trans (P5.out.2.alloc _)).grown hg7 (fun k e hlt => by have := HO.out.block k e; omega)))
       clear ho7 hg7 r1 r2 r3 r4
       go_roundw
       case rel => exact ⟨i + 1, by omega, by go_num, by rw [Q.out.2.2.2.2.1, show cutOut (⟨oa, oe⟩, ⟨ob, of⟩) (⟨sa, se⟩, ⟨sb, sf⟩) = [((⟨sa, se⟩, ⟨sb, sf⟩) : Span)] from if_pos (by rw [HC.out.1, HC.out.2]; rfl)]; exact R.out.1, R.out.2⟩
       case measure => simp [intOf]; omega
      ·have M0 : MB bo b9 b10 b11 (.string oa) (.bool oe) (.string ob) (.bool of) (.string sa) (.bool se) (.string sb) (.bool sf) (.string sa) (.bool se) (.string sb) (.bool sf) (.string sa) (.bool se) (.string sb) (.bool sf) wx := ⟨(ox.block _ (lt_of_heap Q.out.2.2.2.1) (fun f => f)).trans Q.out.2.2.2.1, (ox.block _ (lt_of_heap Q.out.2.2.1) (fun f => f)).trans Q.out.2.2.1, h10, h11⟩
       obtain ⟨m1, m2, m3, m4⟩ := M0
       have r1 := blk4 m1
       have r2 := blk4 m2
       have r3 := blk4 m3
       have r4 := blk4 m4
       have P0 := Lib.hid (And.intro (show MB bo b9 b10 b11 (.string oa) (.bool oe) (.string ob) (.bool of) (.string sa) (.bool se) (.string sb) (.bool sf) (.string sa) (.bool se) (.string sb) (.bool sf) (.string sa) (.bool se) (.string sb) (.bool sf) wx from ⟨m1, m2, m3, m4⟩) ox)
       clear m1 m2 m3 m4 ox h10 h11
       go_wp2_with fail
       refine (L1.out wx).mono ?_
       rintro e y1 ⟨rfl, k1⟩
       have P1 := Lib.hid (And.intro (P0.out.1.to k1) (P0.out.2.trans k1))
       clear k1 r1 r2 r3 r4
       obtain ⟨m1, m2, m3, m4⟩ := P1.out.1
       have r1 := blk4 m1
       have r2 := blk4 m2
       have r3 := blk4 m3
       have r4 := blk4 m4
       clear m1 m2 m3 m4
       go_upto_region 11 with fail
       have P2 := Lib.hid (And.intro (P1.out.1.hi10 D.out.2.2.2.1 D.out.2.2.2.2.1 D.out.1 (.string oa) (.bool oe)) (P1.out.2.then ((keepV y1 b10 2 (.string oa)).trans (keepV _ b10 3 (.bool oe))) (fun i hi e => by have := D.out.2.1; omega)))
       obtain ⟨y2, hy2⟩ : ∃ y2, (y1.setCell ⟨b10, 2, none⟩ (.string oa)).setCell ⟨b10, 3, none⟩ (.bool oe) = y2 := ⟨_, rfl⟩
       rw [hy2] at P2 ⊢
       clear hy2
       clear r1 r2 r3 r4
       obtain ⟨m1, m2, m3, m4⟩ := P2.out.1
       have r1 := blk4 m1
       have r2 := blk4 m2
       have r3 := blk4 m3
       have r4 := blk4 m4
       clear m1 m2 m3 m4
       go_wp2_with fail
       refine (L2.out y2).mono ?_
       rintro e y3 ⟨rfl, k3⟩
       have P3 := Lib.hid (And.intro (P2.out.1.to k3) (P2.out.2.trans k3))
       clear k3 r1 r2 r3 r4
       obtain ⟨m1, m2, m3, m4⟩ := P3.out.1
       have r1 := blk4 m1
       have r2 := blk4 m2
       have r3 := blk4 m3
       have r4 := blk4 m4
       clear m1 m2 m3 m4
       go_upto_region 13 with fail
       have P4 := Lib.hid P3.out
       clear r1 r2 r3 r4
       obtain ⟨m1, m2, m3, m4⟩ := P4.out.1
       have r1 := blk4 m1
       have r2 := blk4 m2
       have r3 := blk4 m3
       have r4 := blk4 m4
       clear m1 m2 m3 m4
       go_wp2_with fail
       refine (L1.out y3).mono ?_
       rintro e y5 ⟨rfl, k5⟩
       have P5 := Lib.hid (And.intro (P4.out.1.to k5) (P4.out.2.trans k5))
       clear k5 r1 r2 r3 r4
       obtain ⟨m1, m2, m3, m4⟩ := P5.out.1
       have r1 := blk4 m1
       have r2 := blk4 m2
       have r3 := blk4 m3
       have r4 := blk4 m4
       clear m1 m2 m3 m4
       go_wp2_with fail
       refine (L2.out y5).mono ?_
       rintro e y6 ⟨rfl, k6⟩
       have P6 := Lib.hid (And.intro (P5.out.1.to k6) (P5.out.2.trans k6))
       clear k6 r1 r2 r3 r4
       obtain ⟨m1, m2, m3, m4⟩ := P6.out.1
       have r1 := blk4 m1
       have r2 := blk4 m2
       have r3 := blk4 m3
       have r4 := blk4 m4
       clear m1 m2 m3 m4
       have HO := Lib.hid (Q.out.1.old P6.out.2)
       have SN := Lib.hid (SeesR.new (k := 4) (enc := spanL) y6 192 (0, 0) [(((⟨sa, se⟩, ⟨sb, sf⟩)) : Span)] #[.string sa, .bool se, .string sb, .bool sf] (by simp [spanL]) (fun _ => rfl) (by unfold maxLen; simp))
       have hln := minus1_len G.out.2.2.2.2.1 (G.out.2.2.2.1.take i)
       have hwz : wo.heap.size ≤ y6.heap.size := Nat.le_trans Q.out.2.1.size P6.out.2.size
       rw [List.length_take] at hln
       have HN := Lib.hid (show (minus1 (⟨oa, oe⟩, ⟨ob, of⟩) (cur.take i)).length + 1 ≤ maxLen ∧ ((minus1 (⟨oa, oe⟩, ⟨ob, of⟩) (cur.take i)).length + 1) * 48 ≤ 140737488355328 ∧ wo.heap.size ≤ (y6.alloc (.cells #[.string sa, .bool se, .string sb, .bool sf] 192)).heap.size from ⟨by unfold maxLen; omega, by omega, by simp; omega⟩)
       clear hln hwz
       go_wp2_with (at_builtin; go_loud (refine wpList_append_rows (P := Tryz.prog) rfl _ _ 99 rfl wo.heap.size 192 4 48 spanL _ Tryz.underlying99 Tryz.infoSpan rfl (by decide) u7 (minus1 (⟨oa, oe⟩, ⟨ob, of⟩) (cur.take i)) rfl (HO.out.alloc _) _ [(((⟨sa, se⟩, ⟨sb, sf⟩)) : Span)] rfl SN.out (by simp [spanL]) (by simp [spanL, Value.oneCell']) HN.out.1 HN.out.2.1 HN.out.2.2 ?_; intro v7 w7 ho7 hg7 _))
       have R := Lib.hid (And.intro ho7 ((Q.out.2.1.trans (P6.out.2.alloc _)).grown hg7 (fun k e hlt => by have := HO.out.block k e; omega)))
       clear ho7 hg7 r1 r2 r3 r4
       go_roundw
       case rel => exact ⟨i + 1, by omega, by go_num, by rw [Q.out.2.2.2.2.1, show cutOut (⟨oa, oe⟩, ⟨ob, of⟩) (⟨sa, se⟩, ⟨sb, sf⟩) = [((⟨sa, se⟩, ⟨sb, sf⟩) : Span)] from if_pos (by rw [HC.out.1, HC.out.2]; rfl)]; exact R.out.1, R.out.2⟩
       case measure => simp [intOf]; omega
      ·have M0 : MB bo b9 b10 b11 (.string oa) (.bool oe) (.string ob) (.bool of) (.string sa) (.bool se) (.string sb) (.bool sf) (.string sa) (.bool se) (.string sb) (.bool sf) (.string sa) (.bool se) (.string sb) (.bool sf) wx := ⟨(ox.block _ (lt_of_heap Q.out.2.2.2.1) (fun f => f)).trans Q.out.2.2.2.1, (ox.block _ (lt_of_heap Q.out.2.2.1) (fun f => f)).trans Q.out.2.2.1, h10, h11⟩
       obtain ⟨m1, m2, m3, m4⟩ := M0
       have r1 := blk4 m1
       have r2 := blk4 m2
       have r3 := blk4 m3
       have r4 := blk4 m4
       have P0 := Lib.hid (And.intro (show MB bo b9 b10 b11 (.string oa) (.bool oe) (.string ob) (.bool of) (.string sa) (.bool se) (.string sb) (.bool sf) (.string sa) (.bool se) (.string sb) (.bool sf) (.string sa) (.bool se) (.string sb) (.bool sf) wx from ⟨m1, m2, m3, m4⟩) ox)
       clear m1 m2 m3 m4 ox h10 h11
       go_wp2_with fail
       refine (L1.out wx).mono ?_
       rintro e y1 ⟨rfl, k1⟩
       have P1 := Lib.hid (And.intro (P0.out.1.to k1) (P0.out.2.trans k1))
       clear k1 r1 r2 r3 r4
       obtain ⟨m1, m2, m3, m4⟩ := P1.out.1
       have r1 := blk4 m1
       have r2 := blk4 m2
       have r3 := blk4 m3
       have r4 := blk4 m4
       clear m1 m2 m3 m4
       go_upto_region 11 with fail
       have P2 := Lib.hid (And.intro (P1.out.1.hi10 D.out.2.2.2.1 D.out.2.2.2.2.1 D.out.1 (.string oa) (.bool oe)) (P1.out.2.then ((keepV y1 b10 2 (.string oa)).trans (keepV _ b10 3 (.bool oe))) (fun i hi e => by have := D.out.2.1; omega)))
       obtain ⟨y2, hy2⟩ : ∃ y2, (y1.setCell ⟨b10, 2, none⟩ (.string oa)).setCell ⟨b10, 3, none⟩ (.bool oe) = y2 := ⟨_, rfl⟩
       rw [hy2] at P2 ⊢
       clear hy2
       clear r1 r2 r3 r4
       obtain ⟨m1, m2, m3, m4⟩ := P2.out.1
       have r1 := blk4 m1
       have r2 := blk4 m2
       have r3 := blk4 m3
       have r4 := blk4 m4
       clear m1 m2 m3 m4
       go_wp2_with fail
       refine (L2.out y2).mono ?_
       rintro e y3 ⟨rfl, k3⟩
       have P3 := Lib.hid (And.intro (P2.out.1.to k3) (P2.out.2.trans k3))
       clear k3 r1 r2 r3 r4
       obtain ⟨m1, m2, m3, m4⟩ := P3.out.1
       have r1 := blk4 m1
       have r2 := blk4 m2
       have r3 := blk4 m3
       have r4 := blk4 m4
       clear m1 m2 m3 m4
       go_upto_region 13 with fail
       have P4 := Lib.hid (And.intro (P3.out.1.lo11 D.out.2.2.2.2.2.1 D.out.2.2.2.2.2.2 D.out.1 (.string ob) (.bool of)) (P3.out.2.then ((keepV y3 b11 0 (.string ob)).trans (keepV _ b11 1 (.bool of))) (fun i hi e => by have := D.out.2.2.1; omega)))
       obtain ⟨y4, hy4⟩ : ∃ y4, (y3.setCell ⟨b11, 0, none⟩ (.string ob)).setCell ⟨b11, 1, none⟩ (.bool of) = y4 := ⟨_, rfl⟩
       rw [hy4] at P4 ⊢
       clear hy4
       clear r1 r2 r3 r4
       obtain ⟨m1, m2, m3, m4⟩ := P4.out.1
       have r1 := blk4 m1
       have r2 := blk4 m2
       have r3 := blk4 m3
       have r4 := blk4 m4
       clear m1 m2 m3 m4
       go_wp2_with fail
       refine (L1.out y4).mono ?_
       rintro e y5 ⟨rfl, k5⟩
       have P5 := Lib.hid (And.intro (P4.out.1.to k5) (P4.out.2.trans k5))
       clear k5 r1 r2 r3 r4
       obtain ⟨m1, m2, m3, m4⟩ := P5.out.1
       have r1 := blk4 m1
       have r2 := blk4 m2
       have r3 := blk4 m3
       have r4 := blk4 m4
       clear m1 m2 m3 m4
       go_wp2_with fail
       refine (L2.out y5).mono ?_
       rintro e y6 ⟨rfl, k6⟩
       have P6 := Lib.hid (And.intro (P5.out.1.to k6) (P5.out.2.trans k6))
       clear k6 r1 r2 r3 r4
       obtain ⟨m1, m2, m3, m4⟩ := P6.out.1
       have r1 := blk4 m1
       have r2 := blk4 m2
       have r3 := blk4 m3
       have r4 := blk4 m4
       clear m1 m2 m3 m4
       go_upto_region 15 with fail
       obtain ⟨y7, hy7⟩ : ∃ y7, y6.alloc (.cells #[.string sa, .bool se, .string oa, .bool oe, .string ob, .bool of, .string sb, .bool sf] 192) = y7 := ⟨_, rfl⟩
       have s7 : SeesR y7 4 spanL (.slice (some ⟨y6.heap.size, 0, none⟩) 2 2) [(((⟨sa, se⟩, ⟨oa, oe⟩)) : Span), (⟨ob, of⟩, ⟨sb, sf⟩)] := by rw [← hy7]; exact SeesR.new (k := 4) (enc := spanL) y6 192 (0, 0) [(((⟨sa, se⟩, ⟨oa, oe⟩)) : Span), (⟨ob, of⟩, ⟨sb, sf⟩)] #[.string sa, .bool se, .string oa, .bool oe, .string ob, .bool of, .string sb, .bool sf] (by simp [spanL]) (fun _ => rfl) (by unfold maxLen; simp)
       have o7 : Old y6 y7 := by rw [← hy7]; exact (Keeps.refl _ _).alloc _
       obtain ⟨gb, hgb⟩ : ∃ gb, y6.heap.size = gb := ⟨_, rfl⟩
       rw [hgb] at s7
       have hln := minus1_len G.out.2.2.2.2.1 (G.out.2.2.2.1.take i)
       rw [List.length_take] at hln
       have hwz : wo.heap.size ≤ y7.heap.size := Nat.le_trans Q.out.2.1.size (Nat.le_trans P6.out.2.size o7.size)
       have hgy : gb < y7.heap.size := by rw [← hgb, ← hy7]; simp
       have hnb0 : ∀ k, u7.ownBlock = some k → k ≠ gb := fun k e => by have h1 := (Q.out.1.block k e).2; have h2 := P6.out.2.size; omega
       have V := Lib.hid (And.intro s7 (And.intro (P6.out.2.trans o7) (And.intro (Q.out.1.old (P6.out.2.trans o7)) (And.intro hln (And.intro hwz (And.intro hgy hnb0))))))
       clear s7 o7 hln hwz hgy hnb0
       go_wp2_with fail
       clear hy7 hgb r1 r2 r3 r4
       go_loopw [7, 74] (fun v7 v74 wz => ∃ q : Nat, q ≤ 2 ∧ v74 = .int .i64 q ∧ OwnsR wz wo.heap.size 192 4 spanL v7 (minus1 (⟨oa, oe⟩, ⟨ob, of⟩) (cur.take i) ++ ([(((⟨sa, se⟩, ⟨oa, oe⟩)) : Span), (⟨ob, of⟩, ⟨sb, sf⟩)].take q).filter fun x => lessC x.1 x.2) ∧ Keeps (fun k => wo.heap.size ≤ k ∧ k ≠ gb) y7 wz ∧ ∀ k, v7.ownBlock = some k → k ≠ gb) (fun _ v74 _ => 2 - (intOf v74).toNat)
       case atStart => exact ⟨0, by omega, rfl, by simpa using V.out.2.2.1, Keeps.refl _ _, V.out.2.2.2.2.2.2⟩
       case round =>
        obtain ⟨wz, hwz0⟩ : ∃ wz : World, wz = wr := ⟨_, rfl⟩
        subst hwz0
        obtain ⟨q, hq2, rfl, hoz, hkz, hnb⟩ := hrel
        have HNB := Lib.hid hnb
        clear hnb
        obtain ⟨X, hX⟩ : ∃ X, [(((⟨sa, se⟩, ⟨oa, oe⟩)) : Span), (⟨ob, of⟩, ⟨sb, sf⟩)] = X := ⟨_, rfl⟩
        have hXl : X.length = 2 := by rw [← hX]; rfl
        have hs7 := V.out.1
        rw [hX] at hs7 hoz
        by_cases hlt3 : q < 2
        ·obtain ⟨bb, obb, ccb, he, _, _, hcx⟩ := hs7.at (by omega)
         simp only [Value.slice.injEq, Option.some.injEq, Addr.mk.injEq, and_true] at he
         obtain ⟨⟨rfl, rfl⟩, he1, he2⟩ := he
         clear he1 he2
         obtain ⟨x, hx⟩ : ∃ x, X[q]? = some x := ⟨_, List.getElem?_eq_getElem (by omega)⟩
         have hft : (X.take (q + 1)).filter (fun x => lessC x.1 x.2) = (X.take q).filter (fun x => lessC x.1 x.2) ++ if lessC x.1 x.2 = true then [x] else [] := by
          rw [List.take_add_one, hx, List.filter_append]
          cases hh : lessC x.1 x.2 <;> simp [hh]
         obtain ⟨⟨xa, xe⟩, xb, xf⟩ := x
         have x0 := hkz.cell (hcx q _ hx 0 _ rfl) (fun f => f.2 rfl)
         have x1 := hkz.cell (hcx q _ hx 1 _ rfl) (fun f => f.2 rfl)
         have x2 := hkz.cell (hcx q _ hx 2 _ rfl) (fun f => f.2 rfl)
         have x3 := hkz.cell (hcx q _ hx 3 _ rfl) (fun f => f.2 rfl)
         simp only [Nat.add_zero, Nat.zero_add] at x0 x1 x2 x3
         obtain ⟨z1, hz1⟩ : ∃ z1, wz.alloc (.cells #[.string xa, .bool xe, .string xb, .bool xf] 192) = z1 := ⟨_, rfl⟩
         have oz1 : Old wz z1 := by rw [← hz1]; exact (Keeps.refl _ _).alloc _
         have bz1 : z1.heap[wz.heap.size]? = some (.cells #[.string xa, .bool xe, .string xb, .bool xf] 192 (0, 0)) := by rw [← hz1]; exact heap_alloc_new _ _
         have r1 := blk4 bz1
         have hll : (minus1 (⟨oa, oe⟩, ⟨ob, of⟩) (cur.take i) ++ (X.take q).filter fun x => lessC x.1 x.2).length ≤ 200000 := by
          rw [List.length_append]
          refine Nat.le_trans (Nat.add_le_add_left (Nat.le_trans (List.length_filter_le _ _) (List.length_take_le _ _)) _) ?_
          have := V.out.2.2.2.1
          omega
         have E := Lib.hid (And.intro (hoz.old oz1) (And.intro (hkz.then oz1 (fun _ _ f => f.elim)) (And.intro bz1 (And.intro hft (And.intro hll hX)))))
         have HZ := Lib.hid hz1
         have LX := Lib.hid (fun W => less_any ⟨xa, xe⟩ ⟨xb, xf⟩ W)
         unfold Cut.cells at LX
         simp only at LX
         clear hoz hkz hs7 hcx hx hft oz1 bz1 hll hX hXl
         go_upto_region 18 with fail
         clear x0 x1 x2 x3 hz1
         cases hcx : lessC ⟨xa, xe⟩ ⟨xb, xf⟩
         ·rw [hcx] at LX
          have HCX := Lib.hid hcx
          clear hcx
          go_wp2_with fail
          refine (LX.out z1).mono ?_
          rintro e z2 ⟨rfl, k2⟩
          have F := Lib.hid (And.intro (E.out.1.old k2) (E.out.2.1.then k2 (fun _ _ f => f.elim)))
          clear k2 r1
          go_wp2_with fail
          go_roundw
          case rel => exact ⟨q + 1, by omega, by go_num, by rw [E.out.2.2.2.2.2, E.out.2.2.2.1, HCX.out, if_neg (by decide), List.append_nil]; exact F.out.1, F.out.2, HNB.out⟩
          case measure => simp [intOf]; omega
         ·rw [hcx] at LX
          have HCX := Lib.hid hcx
          clear hcx
          go_wp2_with fail
          refine (LX.out z1).mono ?_
          rintro e z2 ⟨rfl, k2⟩
          have b2 := (k2.block _ (lt_of_heap E.out.2.2.1) (fun f => f)).trans E.out.2.2.1
          have r2 := blk4 b2
          have F := Lib.hid (And.intro (E.out.1.old k2) (E.out.2.1.then k2 (fun _ _ f => f.elim)))
          have SN := Lib.hid (SeesR.new (k := 4) (enc := spanL) z2 192 (0, 0) [(((⟨xa, xe⟩, ⟨xb, xf⟩)) : Span)] #[.string xa, .bool xe, .string xb, .bool xf] (by simp [spanL]) (fun _ => rfl) (by unfold maxLen; simp))
          have hwz2 : wo.heap.size ≤ z2.heap.size := Nat.le_trans V.out.2.2.2.2.1 F.out.2.size
          have HN := Lib.hid (show (minus1 (⟨oa, oe⟩, ⟨ob, of⟩) (cur.take i) ++ (X.take q).filter fun x => lessC x.1 x.2).length + 1 ≤ maxLen ∧ ((minus1 (⟨oa, oe⟩, ⟨ob, of⟩) (cur.take i) ++ (X.take q).filter fun x => lessC x.1 x.2).length + 1) * 48 ≤ 140737488355328 ∧ wo.heap.size ≤ (z2.alloc (.cells #[.string xa, .bool xe, .string xb, .bool xf] 192)).heap.size from ⟨by have := E.out.2.2.2.2.1; unfold maxLen; omega, by have := E.out.2.2.2.2.1; omega, by simp; omega⟩)
          clear k2 b2 r1 hwz2
          go_wp2_with (at_builtin; go_loud (refine wpList_append_rows (P := Tryz.prog) rfl _ _ 99 rfl wo.heap.size 192 4 48 spanL _ Tryz.underlying99 Tryz.infoSpan rfl (by decide) u7 (minus1 (⟨oa, oe⟩, ⟨ob, of⟩) (cur.take i) ++ (X.take q).filter fun x => lessC x.1 x.2) rfl (F.out.1.alloc _) _ [(((⟨xa, xe⟩, ⟨xb, xf⟩)) : Span)] rfl SN.out (by simp [spanL]) (by simp [spanL, Value.oneCell']) HN.out.1 HN.out.2.1 HN.out.2.2 ?_; intro v7 w7 ho7 hg7 hor))
          have R := Lib.hid (And.intro ho7 (And.intro ((F.out.2.alloc _).grown hg7 (fun k e hlt => ⟨(F.out.1.block k e).1, HNB.out k e⟩)) (fun k (e : v7.ownBlock = some k) => show k ≠ gb from hor.elim (fun h => HNB.out k (h.symm.trans e)) (fun h => by have h1 := V.out.2.2.2.2.2.1; have h2 := F.out.2.size; rw [h, Option.some.injEq] at e; simp at e; omega))))
          clear ho7 hg7 hor r2
          go_roundw
          case rel => exact ⟨q + 1, by omega, by go_num, by rw [E.out.2.2.2.2.2, E.out.2.2.2.1, HCX.out, if_pos rfl, ← List.append_assoc]; exact R.out.1, R.out.2.1, R.out.2.2⟩
          case measure => simp [intOf]; omega
        ·have hq3 : q = 2 := by omega
         subst hq3
         have E := Lib.hid (And.intro hoz (And.intro hkz hX))
         clear hoz hkz hs7 hX hXl
         go_wp2_with fail
         go_roundw
         case rel =>
          refine ⟨i + 1, by omega, by go_num, ?_, (Q.out.2.1.trans V.out.2.1).then E.out.2.1 (fun i hi e => absurd e.1 (by omega))⟩
          have e := E.out.1
          rw [← E.out.2.2] at e
          rw [Q.out.2.2.2.2.1, show cutOut (⟨oa, oe⟩, ⟨ob, of⟩) (⟨sa, se⟩, ⟨sb, sf⟩) = [(((⟨sa, se⟩, ⟨oa, oe⟩)) : Span), (⟨ob, of⟩, ⟨sb, sf⟩)].filter fun x => lessC x.1 x.2 from if_neg (by rw [HC.out.1, HC.out.2]; decide)]
          exact e
         case measure => simp [intOf]; omega
    -- END REST
    -- END REST
    ·have hi9 : i = cur.length := by omega
     subst hi9
     rw [List.take_length] at hon
     have E := Lib.hid (And.intro (hon.sees (fun _ => rfl) (by decide)) (G.out.2.1.trans hq))
     clear hon hq
     obtain ⟨pl, cl, rfl, _, _⟩ := E.out.1.len
     go_wp2_with fail
     go_roundw
     case rel => exact ⟨j + 1, by omega, by go_num, by rw [G.out.2.2.2.2.2]; exact E.out.1, E.out.2⟩
     case measure => simp [intOf]; omega
  ·have hj9 : j = m.length := by omega
   subst hj9
   rw [List.take_length] at hcur
   have E := Lib.hid (And.intro hs (And.intro hk hcur))
   clear hs hk hcur hrise
   go_wp2_with fail
   go_ret
   exact ⟨_, _, _, rfl, by rw [E.out.2.2]; exact E.out.1, E.out.2.1⟩
end
end Go.Proofs.YtehmlaplodjenaaGreat
