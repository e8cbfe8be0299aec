/- DERIVED. Chapter 20: the laws' take. -/
import Derived.Test.YtllnlimbfoingaaZLinkEnds02
namespace Go.Proofs.Ytllnlimbfoingaa
open Go.RowKit Go.Conc

def iv (i : Bool) : Nat := cond i 1 0
theorem iv_not (i : Bool) : ((iv (!i) : Nat) : Int) = 1 - (iv i : Int) := by cases i <;> rfl
theorem iv_lt (i : Bool) : iv i < 2 := by cases i <;> decide
/-- the world's cells -/
theorem wd_cells {w : World} {wb : Nat} {lb : Bool → Nat} {V : Bool → Value} {e : Bool → En} {mb : Bool → Bool → Nat} {t : TypeId} (h : w.heap[wb]? = some (.cells (wdCells lb V e mb).toArray t (0, 0))) (i : Bool) :
  (w.cell? ⟨wb, iv i * 3, none⟩ = some (.pointer (some ⟨lb i, 0, none⟩)) ∧ w.cell? ⟨wb, iv i * 3 + 1, none⟩ = some (V i) ∧ w.cell? ⟨wb, iv i * 3 + 2, none⟩ = some (.int .u64 ((e i).life : Int))) ∧
   w.cell? ⟨wb, 6 + iv i, none⟩ = some (.map (some (mb false i))) ∧ w.cell? ⟨wb, 8 + iv i, none⟩ = some (.map (some (mb true i))) ∧ ∀ o, w.frozen? ⟨wb, o, none⟩ = false := by
 have hf : ∀ o, w.frozen? ⟨wb, o, none⟩ = false := fun o => by simp [World.frozen?, h]
 cases i <;> simp [World.cell?, h, wdCells, iv, hf]
theorem blk2 {w : World} {b : Nat} {t : TypeId} {a0 a1 : Value} (h : w.heap[b]? = some (.cells #[a0, a1] t (0, 0))) : (w.cell? ⟨b, 0, none⟩ = some a0 ∧ w.cell? ⟨b, 1, none⟩ = some a1) ∧ (w.frozen? ⟨b, 0, none⟩ = false ∧ w.frozen? ⟨b, 1, none⟩ = false) := by simp [World.cell?, World.frozen?, h]
theorem taken_len (e : En) (p : Pk) {e' : En} {m : Bs} (h : e.take p = (e', some m)) : m = p.data := by
 unfold En.take at h
 split at h
 ·cases h
 split at h
 ·cases h
 split at h
 ·cases h
 split at h
 ·cases h
 ·simp only [Prod.mk.injEq, Option.some.injEq] at h; exact h.2.symm
structure TkIn (w : World) (R : Bool → Nat → Prop) (F : SeRows) (W : Wd) (i : Bool) (p : Pv) : Prop where
 life : 1 ≤ (W.e i).life
 win : (W.e i).win.length ≤ 8
 last : (W.e i).last < 18446744073709551615
 next : (W.e i).next < 18446744073709551615
 sees : Sees w p.v p.d
 len : p.d.length ≤ 140737488355328
 mine : ∀ b, p.v.ownBlock = some b → ¬ R i b
 rows : ∀ s i k, (F s i k).2.length ≤ 100000
set_option maxRecDepth 100000 in
set_option maxHeartbeats 2000000 in
theorem wtake_y {w0 w : World} {wb : Nat} {lb : Bool → Nat} {R : Bool → Nat → Prop} {own : Own} {mb : Bool → Bool → Nat} {F : SeRows} {V : Bool → Value} {X : Bool → List Pv} {W : Wd} (i : Bool) (p : Pv) (h : Wm w0 w wb lb R own mb F V X W) (hp : TkIn w R F W i p) (hT : (W.take i p.plain).2 = true) :
  Calls Try.prog 28 #[.pointer (some ⟨wb, 0, none⟩), .int .i64 (iv i : Int), .agg p.cells.toArray] w fun e w' => e = .returned (.bool true) ∧ Wy w0 w w' wb own R (W.take i p.plain).1 := by
 obtain ⟨x0, x1, x2, x3, xv, xd⟩ := p
 have hs := hp.sees
 simp only at hs
 obtain ⟨xp, xc, rfl, _, _⟩ := hs.len
 simp only [Pv.cells]
 obtain ⟨w1, hw1⟩ : ∃ w1, w.alloc (.cells #[.int .u64 (x0 : Int), .int .u64 (x1 : Int), .int .u64 (x2 : Int), .int .u64 (x3 : Int), .slice xp xd.length xc] 37) = w1 := ⟨_, rfl⟩
 have o1 : Old w w1 := by rw [← hw1]; exact (Keeps.refl _ _).alloc _
 have b1 : w1.heap[w.heap.size]? = some (.cells #[.int .u64 (x0 : Int), .int .u64 (x1 : Int), .int .u64 (x2 : Int), .int .u64 (x3 : Int), .slice xp xd.length xc] 37 (0, 0)) := by rw [← hw1]; exact heap_alloc_new _ _
 have h1 := h.oldW o1
 obtain ⟨bp, hbp⟩ : ∃ b, w.heap.size = b := ⟨_, rfl⟩
 obtain ⟨⟨c0, c1, c2⟩, -, -, -⟩ := wd_cells h1.blk i
 obtain ⟨⟨y0, y1, y2, y3, y4⟩, -⟩ := blk5 b1
 have q1 : (0 : Int) ≤ (iv i : Int) := by omega
 have q2 : (iv i : Int) < 2 := by have := iv_lt i; omega
 have hlt0 : ∀ k, R i k → k < w.heap.size := (h.duo.lt i).1
 have H := Lib.hid (And.intro h1 (And.intro hp (And.intro hT (And.intro b1 (And.intro o1 hlt0)))))
 obtain ⟨n, hn⟩ : ∃ n, iv i = n := ⟨_, rfl⟩
 rw [hbp] at y0 y1 y2 y3 y4 H
 rw [hn] at c0 c1 c2 q1 q2 ⊢
 have HN := Lib.hid hn
 clear h h1 hp hT hs o1 b1 hn hlt0
 go_enter Try.func28, Try.ntmps28
 go_upto_region 2 with fail
 clear hbp hw1 c0 c1 c2 y0 y1 y2 y3 y4
 refine wp_region_g (S := fun w' => w'.heap[wb]? = some (.cells (wdCells lb V W.e mb).toArray 71 (0, 0)) ∧ w'.heap[bp]? = some (.cells #[.int .u64 (x0 : Int), .int .u64 (x1 : Int), .int .u64 (x2 : Int), .int .u64 (x3 : Int), .slice xp xd.length xc] 37 (0, 0))) (M := List.range 13) (by kernel_rfl) ?_
 obtain ⟨wd, hwd⟩ : ∃ wd, w1.drew = wd := ⟨_, rfl⟩
 have KD : Hid (Old w1 wd) := Lib.hid (by rw [← hwd]; exact (Keeps.refl (fun _ => False) w1).drew)
 have hS : wd.heap[wb]? = some (.cells (wdCells lb V W.e mb).toArray 71 (0, 0)) ∧ wd.heap[bp]? = some (.cells #[.int .u64 (x0 : Int), .int .u64 (x1 : Int), .int .u64 (x2 : Int), .int .u64 (x3 : Int), .slice xp xd.length xc] 37 (0, 0)) := by rw [← hwd]; exact ⟨H.out.1.blk, H.out.2.2.2.1⟩
 rw [hwd]
 clear hwd
 refine wpAnyG_takeL (i := 0) (oi := _) (v := ?vt0) rfl (by kernel_rfl) (by kernel_rfl) (by kernel_rfl) (by kernel_rfl) (fun _ _ _ h => h) (Or.inl ⟨by rfl, ?yt0⟩) hS ?rt0
 case yt0 => (intro W hSw; obtain ⟨⟨c0', c1', c2'⟩, -, -, -⟩ := wd_cells hSw.1 i; rw [HN.out] at c0' c1' c2'; obtain ⟨⟨z0, z1, z2, z3, z4⟩, -⟩ := blk5 hSw.2; go_simp; try with_reducible rfl)
 try simp only [Act.put, List.setIfInBounds_toArray, List.set_cons_zero, List.set_cons_succ]
 refine wpAnyG_takeL (i := 1) (oi := _) (v := ?vt1) rfl (by kernel_rfl) (by kernel_rfl) (by kernel_rfl) (by kernel_rfl) (fun _ _ _ h => h) (Or.inl ⟨by rfl, ?yt1⟩) hS ?rt1
 case yt1 => (intro W hSw; obtain ⟨⟨c0', c1', c2'⟩, -, -, -⟩ := wd_cells hSw.1 i; rw [HN.out] at c0' c1' c2'; obtain ⟨⟨z0, z1, z2, z3, z4⟩, -⟩ := blk5 hSw.2; go_simp; try with_reducible rfl)
 try simp only [Act.put, List.setIfInBounds_toArray, List.set_cons_zero, List.set_cons_succ]
 refine wpAnyG_takeL (i := 2) (oi := _) (v := ?vt2) rfl (by kernel_rfl) (by kernel_rfl) (by kernel_rfl) (by kernel_rfl) (fun _ _ _ h => h) (Or.inl ⟨by rfl, ?yt2⟩) hS ?rt2
 case yt2 => (intro W hSw; obtain ⟨⟨c0', c1', c2'⟩, -, -, -⟩ := wd_cells hSw.1 i; rw [HN.out] at c0' c1' c2'; obtain ⟨⟨z0, z1, z2, z3, z4⟩, -⟩ := blk5 hSw.2; go_simp; try with_reducible rfl)
 try simp only [Act.put, List.setIfInBounds_toArray, List.set_cons_zero, List.set_cons_succ]
 refine wpAnyG_takeL (i := 3) (oi := _) (v := ?vt3) rfl (by kernel_rfl) (by kernel_rfl) (by kernel_rfl) (by kernel_rfl) (fun _ _ _ h => h) (Or.inl ⟨by rfl, ?yt3⟩) hS ?rt3
 case yt3 => (intro W hSw; obtain ⟨⟨c0', c1', c2'⟩, -, -, -⟩ := wd_cells hSw.1 i; rw [HN.out] at c0' c1' c2'; obtain ⟨⟨z0, z1, z2, z3, z4⟩, -⟩ := blk5 hSw.2; go_simp; try with_reducible rfl)
 try simp only [Act.put, List.setIfInBounds_toArray, List.set_cons_zero, List.set_cons_succ]
 refine wpAnyG_takeL (i := 4) (oi := _) (v := ?vt4) rfl (by kernel_rfl) (by kernel_rfl) (by kernel_rfl) (by kernel_rfl) (fun _ _ _ h => h) (Or.inl ⟨by rfl, ?yt4⟩) hS ?rt4
 case yt4 => (intro W hSw; obtain ⟨⟨c0', c1', c2'⟩, -, -, -⟩ := wd_cells hSw.1 i; rw [HN.out] at c0' c1' c2'; obtain ⟨⟨z0, z1, z2, z3, z4⟩, -⟩ := blk5 hSw.2; go_simp; try with_reducible rfl)
 try simp only [Act.put, List.setIfInBounds_toArray, List.set_cons_zero, List.set_cons_succ]
 refine wpAnyG_onlyL (i := 5) (o := _) (by kernel_rfl) rfl (fun K hK => ?_)
 go_simp
 have hTK := duo_take (M := ownB own) i ⟨x0, x1, x2, x3, .slice xp xd.length xc, xd⟩ (H.out.1.duo.old KD.out) H.out.2.1.life H.out.2.1.win H.out.2.1.last H.out.2.1.next ((H.out.2.1.sees.old H.out.2.2.2.2.1).old KD.out) H.out.2.1.len H.out.2.1.mine
 refine hTK.mono ?_
 rintro e w2 ⟨R', tq, tn, tc, rfl, ho2, hb2, hR2, hR3, k2, hL2⟩
 have hM2 := hL2 (ownB own) (fun _ m => .inl m) (fun k m => Nat.lt_of_lt_of_le ((H.out.1.oldW KD.out).lt k m).1 k2.size)
 have hlife := take_life (W.e i) ⟨x0, x1, x2, x3, xd⟩
 have g2 := (H.out.1.oldW KD.out).link i k2 hR2 hlife hM2
 have hS2 : w2.heap[wb]? = some (.cells (wdCells lb V W.e mb).toArray 71 (0, 0)) ∧ w2.heap[bp]? = some (.cells #[.int .u64 (x0 : Int), .int .u64 (x1 : Int), .int .u64 (x2 : Int), .int .u64 (x3 : Int), .slice xp xd.length xc] 37 (0, 0)) := by
  have hw := (H.out.1.oldW KD.out)
  refine ⟨(k2.block wb (lt_of_block hS.1) ((hw.lt wb ⟨_, hw.owb⟩).2 i)).trans hS.1, (k2.block bp (lt_of_block hS.2) (fun r => ?_)).trans hS.2⟩
  have h1 := H.out.2.2.2.2.2 bp r
  exact absurd h1 (Nat.lt_irrefl _)
 have HB : Hid (∀ b, (Value.slice tq tn tc).ownBlock = some b → ¬ ownB own b ∧ (∀ j, ¬ upd R i R' j b) ∧ b < w2.heap.size) := Lib.hid fun b hb => by
  obtain ⟨z1, z2⟩ := ho2.block b hb
  have z3 := KD.out.size
  refine ⟨fun m => ?_, both i ?_ ?_, z2⟩
  ·have := (H.out.1.lt b m).1; omega
  ·rw [upd_same]; exact hb2 b hb
  ·rw [upd_not]; exact fun r => by have := (H.out.1.duo.lt (!i)).1 b r; omega
 simp only [Pv.plain] at hlife hM2 g2 ho2 hL2 ⊢
 obtain ⟨T, hTe⟩ : ∃ T, (W.e i).take ⟨x0, x1, x2, x3, xd⟩ = T := ⟨_, rfl⟩
 obtain ⟨bg, hbg⟩ : ∃ z, decide ((W.e i).peer < x0) = z := ⟨_, rfl⟩
 rw [hTe] at hlife g2 ho2 ⊢
 rw [hbg]
 have hdb : bp < w2.heap.size := lt_of_block hS2.2
 have hd2 := KD.out.size
 obtain ⟨wq, hwq⟩ : ∃ wq, w2 = wq := ⟨_, rfl⟩
 have Y := Lib.hid (And.intro g2 (And.intro ho2 (And.intro hb2 (And.intro hR2 (And.intro k2 (And.intro hlife (And.intro hTe hS2.1)))))))
 have GW : Hid (Grew w w2 own own R (upd R i R')) := Lib.hid (Grew.from (H.out.2.2.2.2.1.trans KD.out) (Grew.link own i k2 hR2))
 clear g2 ho2 hR2 hR3 k2 hL2 hM2 hlife hTe hbg hdb hd2 hwq hTK
 obtain ⟨e', r⟩ := T
 cases r with
 | none =>
  have ho := Y.out.2.1
  obtain ⟨tp', tc', htv, _, _⟩ := ho.sees.len
  simp only [Option.getD_none, List.length_nil, Value.slice.injEq] at htv
  obtain ⟨rfl, rfl, rfl⟩ := htv
  clear ho
  go_wp2_with fail
  refine hK.out _ _ (fun _ => hS2) ?_
  clear hK K
  try simp only [Act.put, List.setIfInBounds_toArray, List.set_cons_zero, List.set_cons_succ]
  clear hS
  have hS := hS2
  clear hS2
  refine wpAnyG_onlyL (i := 6) (o := _) (by kernel_rfl) rfl (fun K hK => ?_)
  go_simp
  refine hK.out _ _ (fun _ => hS) ?_
  clear hK K
  try simp only [Act.put, List.setIfInBounds_toArray, List.set_cons_zero, List.set_cons_succ]
  refine wpAnyG_takeL (i := 7) (oi := _) (v := ?vu7) rfl (by kernel_rfl) (by kernel_rfl) (by kernel_rfl) (by kernel_rfl) (fun _ _ _ h => h) (Or.inl ⟨by rfl, ?yu7⟩) hS ?ru7
  case yu7 => (intro W hSw; obtain ⟨⟨c0', c1', c2'⟩, -, -, -⟩ := wd_cells hSw.1 i; rw [HN.out] at c0' c1' c2'; go_simp; try with_reducible rfl)
  try simp only [Act.put, List.setIfInBounds_toArray, List.set_cons_zero, List.set_cons_succ]
  refine wpAnyG_takeL (i := 8) (oi := _) (v := ?vu8) rfl (by kernel_rfl) (by kernel_rfl) (by kernel_rfl) (by kernel_rfl) (fun _ _ _ h => h) (Or.inl ⟨by rfl, ?yu8⟩) hS ?ru8
  case yu8 => (intro W hSw; obtain ⟨⟨c0', c1', c2'⟩, -, -, -⟩ := wd_cells hSw.1 i; rw [HN.out] at c0' c1' c2'; go_simp; try with_reducible rfl)
  try simp only [Act.put, List.setIfInBounds_toArray, List.set_cons_zero, List.set_cons_succ]
  refine wpAnyG_takeL (i := 9) (oi := _) (v := ?vu9) rfl (by kernel_rfl) (by kernel_rfl) (by kernel_rfl) (by kernel_rfl) (fun _ _ _ h => h) (Or.inl ⟨by rfl, ?yu9⟩) hS ?ru9
  case yu9 => (intro W hSw; obtain ⟨⟨c0', c1', c2'⟩, -, -, -⟩ := wd_cells hSw.1 i; rw [HN.out] at c0' c1' c2'; go_simp; try with_reducible rfl)
  try simp only [Act.put, List.setIfInBounds_toArray, List.set_cons_zero, List.set_cons_succ]
  refine wpAnyG_takeL (i := 10) (oi := _) (v := ?vu10) rfl (by kernel_rfl) (by kernel_rfl) (by kernel_rfl) (by kernel_rfl) (fun _ _ _ h => h) (Or.inl ⟨by rfl, ?yu10⟩) hS ?ru10
  case yu10 => (intro W hSw; obtain ⟨⟨c0', c1', c2'⟩, -, -, -⟩ := wd_cells hSw.1 i; rw [HN.out] at c0' c1' c2'; go_simp; try with_reducible rfl)
  try simp only [Act.put, List.setIfInBounds_toArray, List.set_cons_zero, List.set_cons_succ]
  refine wpAnyG_takeL (i := 11) (oi := _) (v := ?vu11) rfl (by kernel_rfl) (by kernel_rfl) (by kernel_rfl) (by kernel_rfl) (fun _ _ _ h => h) (Or.inl ⟨by rfl, ?yu11⟩) hS ?ru11
  case yu11 => (intro W hSw; obtain ⟨⟨c0', c1', c2'⟩, -, -, -⟩ := wd_cells hSw.1 i; rw [HN.out] at c0' c1' c2'; go_simp; try with_reducible rfl)
  try simp only [Act.put, List.setIfInBounds_toArray, List.set_cons_zero, List.set_cons_succ]
  refine wpAnyG_takeL (i := 12) (oi := _) (v := ?vu12) rfl (by kernel_rfl) (by kernel_rfl) (by kernel_rfl) (by kernel_rfl) (fun _ _ _ h => h) (Or.inl ⟨by rfl, ?yu12⟩) hS ?ru12
  case yu12 => (intro W hSw; obtain ⟨⟨c0', c1', c2'⟩, -, -, -⟩ := wd_cells hSw.1 i; rw [HN.out] at c0' c1' c2'; go_simp; try with_reducible rfl)
  try simp only [Act.put, List.setIfInBounds_toArray, List.set_cons_zero, List.set_cons_succ]
  refine wpAnyG_done (by kernel_rfl) ?_ _
  clear hS
  go_wp2_with fail
  go_ret
  obtain ⟨g2, _, _, _, _, _, hTe, _⟩ := Y.out
  have ew : (W.take i ⟨x0, x1, x2, x3, xd⟩).1 = { W with e := upd W.e i e' } := by unfold Wd.take; rw [hTe]
  refine ⟨rfl, ?_⟩
  show Wy w0 w w2 wb own R (W.take i ⟨x0, x1, x2, x3, xd⟩).1
  rw [ew]
  exact ⟨_, _, _, _, _, _, _, g2, GW.out⟩
 | some m =>
  have ho := Y.out.2.1
  obtain ⟨tp', tc', htv, hle, htx⟩ := ho.sees.len
  have hml : m.length ≤ 9223372036854775807 := by have h1 : m.length ≤ tc' := hle; unfold maxLen at htx; omega
  simp only [Option.getD_some, Value.slice.injEq] at htv
  obtain ⟨rfl, rfl, rfl⟩ := htv
  clear ho htx hle
  go_wp2_with fail
  refine hK.out _ _ (fun _ => hS2) ?_
  clear hK K
  try simp only [Act.put, List.setIfInBounds_toArray, List.set_cons_zero, List.set_cons_succ]
  clear hS
  have hS := hS2
  clear hS2
  refine wpAnyG_onlyL (i := 6) (o := _) (by kernel_rfl) rfl (fun K hK => ?_)
  go_simp
  refine hK.out _ _ (fun _ => hS) ?_
  clear hK K
  try simp only [Act.put, List.setIfInBounds_toArray, List.set_cons_zero, List.set_cons_succ]
  refine wpAnyG_takeL (i := 7) (oi := _) (v := ?vuu7) rfl (by kernel_rfl) (by kernel_rfl) (by kernel_rfl) (by kernel_rfl) (fun _ _ _ h => h) (Or.inl ⟨by rfl, ?yuu7⟩) hS ?ruu7
  case yuu7 => (intro W hSw; obtain ⟨⟨c0', c1', c2'⟩, -, -, -⟩ := wd_cells hSw.1 i; rw [HN.out] at c0' c1' c2'; go_simp; try with_reducible rfl)
  try simp only [Act.put, List.setIfInBounds_toArray, List.set_cons_zero, List.set_cons_succ]
  refine wpAnyG_takeL (i := 8) (oi := _) (v := ?vuu8) rfl (by kernel_rfl) (by kernel_rfl) (by kernel_rfl) (by kernel_rfl) (fun _ _ _ h => h) (Or.inl ⟨by rfl, ?yuu8⟩) hS ?ruu8
  case yuu8 => (intro W hSw; obtain ⟨⟨c0', c1', c2'⟩, -, -, -⟩ := wd_cells hSw.1 i; rw [HN.out] at c0' c1' c2'; go_simp; try with_reducible rfl)
  try simp only [Act.put, List.setIfInBounds_toArray, List.set_cons_zero, List.set_cons_succ]
  refine wpAnyG_takeL (i := 9) (oi := _) (v := ?vuu9) rfl (by kernel_rfl) (by kernel_rfl) (by kernel_rfl) (by kernel_rfl) (fun _ _ _ h => h) (Or.inl ⟨by rfl, ?yuu9⟩) hS ?ruu9
  case yuu9 => (intro W hSw; obtain ⟨⟨c0', c1', c2'⟩, -, -, -⟩ := wd_cells hSw.1 i; rw [HN.out] at c0' c1' c2'; go_simp; try with_reducible rfl)
  try simp only [Act.put, List.setIfInBounds_toArray, List.set_cons_zero, List.set_cons_succ]
  refine wpAnyG_takeL (i := 10) (oi := _) (v := ?vuu10) rfl (by kernel_rfl) (by kernel_rfl) (by kernel_rfl) (by kernel_rfl) (fun _ _ _ h => h) (Or.inl ⟨by rfl, ?yuu10⟩) hS ?ruu10
  case yuu10 => (intro W hSw; obtain ⟨⟨c0', c1', c2'⟩, -, -, -⟩ := wd_cells hSw.1 i; rw [HN.out] at c0' c1' c2'; go_simp; try with_reducible rfl)
  try simp only [Act.put, List.setIfInBounds_toArray, List.set_cons_zero, List.set_cons_succ]
  refine wpAnyG_takeL (i := 11) (oi := _) (v := ?vuu11) rfl (by kernel_rfl) (by kernel_rfl) (by kernel_rfl) (by kernel_rfl) (fun _ _ _ h => h) (Or.inl ⟨by rfl, ?yuu11⟩) hS ?ruu11
  case yuu11 => (intro W hSw; obtain ⟨⟨c0', c1', c2'⟩, -, -, -⟩ := wd_cells hSw.1 i; rw [HN.out] at c0' c1' c2'; go_simp; try with_reducible rfl)
  try simp only [Act.put, List.setIfInBounds_toArray, List.set_cons_zero, List.set_cons_succ]
  refine wpAnyG_takeL (i := 12) (oi := _) (v := ?vuu12) rfl (by kernel_rfl) (by kernel_rfl) (by kernel_rfl) (by kernel_rfl) (fun _ _ _ h => h) (Or.inl ⟨by rfl, ?yuu12⟩) hS ?ruu12
  case yuu12 => (intro W hSw; obtain ⟨⟨c0', c1', c2'⟩, -, -, -⟩ := wd_cells hSw.1 i; rw [HN.out] at c0' c1' c2'; go_simp; try with_reducible rfl)
  try simp only [Act.put, List.setIfInBounds_toArray, List.set_cons_zero, List.set_cons_succ]
  refine wpAnyG_done (by kernel_rfl) ?_ _
  clear hS
  have hlife : e'.life = (W.e i).life := Y.out.2.2.2.2.2.1
  obtain ⟨kl, hkl⟩ : ∃ k, e'.life = k := ⟨_, rfl⟩
  obtain ⟨kp, hkp⟩ : ∃ k, e'.peer = k := ⟨_, rfl⟩
  have E2 := Lib.hid (And.intro hkl hkp)
  clear hkl hkp hlife
  go_upto_region 5 with fail
  go_cut [11] (fun v11 wc => ∃ bs, v11 = .pointer (some ⟨bs, 0, none⟩) ∧ w2.heap.size ≤ bs ∧ wc.heap[bs]? = some (.cells #[.int .u64 (kl : Int), .int .u64 (kp : Int)] 74 (0, 0)) ∧ Old w2 wc)
  case first =>
   refine wp_region_g (S := fun w' => w'.heap[wb]? = some (.cells (wdCells lb V (upd W.e i e') mb).toArray 71 (0, 0))) (M := List.range 12) (by kernel_rfl) ?_
   obtain ⟨wd, hwd⟩ : ∃ wd, w2.drew = wd := ⟨_, rfl⟩
   have KD2 : Hid (Old w2 wd) := Lib.hid (by rw [← hwd]; exact (Keeps.refl (fun _ => False) w2).drew)
   have hS : wd.heap[wb]? = some (.cells (wdCells lb V (upd W.e i e') mb).toArray 71 (0, 0)) := by rw [← hwd]; exact Y.out.1.blk
   rw [hwd]
   clear hwd
   refine wpAnyG_takeL (i := 0) (oi := _) (v := ?vv0) rfl (by kernel_rfl) (by kernel_rfl) (by kernel_rfl) (by kernel_rfl) (fun _ _ _ h => h) (Or.inl ⟨by rfl, ?yv0⟩) hS ?rv0
   case yv0 => (intro W hSw; obtain ⟨⟨c0', c1', c2'⟩, -, -, -⟩ := wd_cells hSw i; rw [HN.out] at c0' c1' c2'; rw [upd_same, E2.out.1] at c2'; go_simp; try with_reducible rfl)
   try simp only [Act.put, List.setIfInBounds_toArray, List.set_cons_zero, List.set_cons_succ]
   refine wpAnyG_takeL (i := 1) (oi := _) (v := ?vv1) rfl (by kernel_rfl) (by kernel_rfl) (by kernel_rfl) (by kernel_rfl) (fun _ _ _ h => h) (Or.inl ⟨by rfl, ?yv1⟩) hS ?rv1
   case yv1 => (intro W hSw; obtain ⟨⟨c0', c1', c2'⟩, -, -, -⟩ := wd_cells hSw i; rw [HN.out] at c0' c1' c2'; rw [upd_same, E2.out.1] at c2'; go_simp; try with_reducible rfl)
   try simp only [Act.put, List.setIfInBounds_toArray, List.set_cons_zero, List.set_cons_succ]
   refine wpAnyG_takeL (i := 2) (oi := _) (v := ?vv2) rfl (by kernel_rfl) (by kernel_rfl) (by kernel_rfl) (by kernel_rfl) (fun _ _ _ h => h) (Or.inl ⟨by rfl, ?yv2⟩) hS ?rv2
   case yv2 => (intro W hSw; obtain ⟨⟨c0', c1', c2'⟩, -, -, -⟩ := wd_cells hSw i; rw [HN.out] at c0' c1' c2'; rw [upd_same, E2.out.1] at c2'; go_simp; try with_reducible rfl)
   try simp only [Act.put, List.setIfInBounds_toArray, List.set_cons_zero, List.set_cons_succ]
   refine wpAnyG_takeL (i := 3) (oi := _) (v := ?vv3) rfl (by kernel_rfl) (by kernel_rfl) (by kernel_rfl) (by kernel_rfl) (fun _ _ _ h => h) (Or.inl ⟨by rfl, ?yv3⟩) hS ?rv3
   case yv3 => (intro W hSw; obtain ⟨⟨c0', c1', c2'⟩, -, -, -⟩ := wd_cells hSw i; rw [HN.out] at c0' c1' c2'; rw [upd_same, E2.out.1] at c2'; go_simp; try with_reducible rfl)
   try simp only [Act.put, List.setIfInBounds_toArray, List.set_cons_zero, List.set_cons_succ]
   refine wpAnyG_takeL (i := 4) (oi := _) (v := ?vv4) rfl (by kernel_rfl) (by kernel_rfl) (by kernel_rfl) (by kernel_rfl) (fun _ _ _ h => h) (Or.inl ⟨by rfl, ?yv4⟩) hS ?rv4
   case yv4 => (intro W hSw; obtain ⟨⟨c0', c1', c2'⟩, -, -, -⟩ := wd_cells hSw i; rw [HN.out] at c0' c1' c2'; rw [upd_same, E2.out.1] at c2'; go_simp; try with_reducible rfl)
   try simp only [Act.put, List.setIfInBounds_toArray, List.set_cons_zero, List.set_cons_succ]
   refine wpAnyG_takeL (i := 5) (oi := _) (v := ?vv5) rfl (by kernel_rfl) (by kernel_rfl) (by kernel_rfl) (by kernel_rfl) (fun _ _ _ h => h) (Or.inl ⟨by rfl, ?yv5⟩) hS ?rv5
   case yv5 => (intro W hSw; obtain ⟨⟨c0', c1', c2'⟩, -, -, -⟩ := wd_cells hSw i; rw [HN.out] at c0' c1' c2'; rw [upd_same, E2.out.1] at c2'; go_simp; try with_reducible rfl)
   try simp only [Act.put, List.setIfInBounds_toArray, List.set_cons_zero, List.set_cons_succ]
   refine wpAnyG_takeL (i := 6) (oi := _) (v := ?vv6) rfl (by kernel_rfl) (by kernel_rfl) (by kernel_rfl) (by kernel_rfl) (fun _ _ _ h => h) (Or.inl ⟨by rfl, ?yv6⟩) hS ?rv6
   case yv6 => (intro W hSw; obtain ⟨⟨c0', c1', c2'⟩, -, -, -⟩ := wd_cells hSw i; rw [HN.out] at c0' c1' c2'; rw [upd_same, E2.out.1] at c2'; go_simp; try with_reducible rfl)
   try simp only [Act.put, List.setIfInBounds_toArray, List.set_cons_zero, List.set_cons_succ]
   refine wpAnyG_takeL (i := 7) (oi := _) (v := ?vv7) rfl (by kernel_rfl) (by kernel_rfl) (by kernel_rfl) (by kernel_rfl) (fun _ _ _ h => h) (Or.inl ⟨by rfl, ?yv7⟩) hS ?rv7
   case yv7 => (intro W hSw; obtain ⟨⟨c0', c1', c2'⟩, -, -, -⟩ := wd_cells hSw i; rw [HN.out] at c0' c1' c2'; rw [upd_same, E2.out.1] at c2'; go_simp; try with_reducible rfl)
   try simp only [Act.put, List.setIfInBounds_toArray, List.set_cons_zero, List.set_cons_succ]
   have PC := Lib.hid (lk_peer ((Y.out.1.duo.old KD2.out) i))
   dsimp only at PC
   rw [upd_same, E2.out.2] at PC
   have hz2 : Hid (w2.heap.size ≤ wd.heap.size) := Lib.hid KD2.out.size
   obtain ⟨bs, hbs⟩ : ∃ bs, wd.heap.size = bs := ⟨_, rfl⟩
   obtain ⟨ws, hws⟩ : ∃ ws, wd.alloc (.cells #[.int .u64 0, .int .u64 0] 74) = ws := ⟨_, rfl⟩
   have ks : Old wd ws := by rw [← hws]; exact (Keeps.refl _ _).alloc _
   have bss : ws.heap[bs]? = some (.cells #[.int .u64 0, .int .u64 0] 74 (0, 0)) := by rw [← hws, ← hbs]; exact heap_alloc_new _ _
   have hSs : ws.heap[wb]? = some (.cells (wdCells lb V (upd W.e i e') mb).toArray 71 (0, 0)) := (ks.block _ (lt_of_block hS) (fun f => f)).trans hS
   have PC2 := Lib.hid (lk_peer (((Y.out.1.duo.old KD2.out).old ks) i))
   dsimp only at PC2
   rw [upd_same, E2.out.2] at PC2
   obtain ⟨⟨f0, f1⟩, ⟨g0, g1⟩⟩ := blk2 bss
   have FIN : Hid (∃ bs', Value.pointer (some ⟨bs, 0, none⟩) = .pointer (some ⟨bs', 0, none⟩) ∧ w2.heap.size ≤ bs' ∧ ((ws.setCell ⟨bs, 0, none⟩ (.int .u64 (kl : Int))).setCell ⟨bs, 1, none⟩ (.int .u64 (kp : Int))).heap[bs']? = some (.cells #[.int .u64 (kl : Int), .int .u64 (kp : Int)] 74 (0, 0)) ∧ Old w2 ((ws.setCell ⟨bs, 0, none⟩ (.int .u64 (kl : Int))).setCell ⟨bs, 1, none⟩ (.int .u64 (kp : Int)))) := Lib.hid (by
    refine ⟨bs, rfl, by rw [← hbs]; exact hz2.out, ?_, (KD2.out.trans ks).then (setAt (setAt (Keeps.refl (fun k => k = bs) ws) 0 _) 1 _) (fun j hj e => by have := hz2.out; omega)⟩
    have := heap_setCell_same _ bs 1 _ _ (.int .u64 (kp : Int)) (heap_setCell_same _ bs 0 _ _ (.int .u64 (kl : Int)) bss)
    simpa using this)
   have hSz : ((ws.setCell ⟨bs, 0, none⟩ (.int .u64 (kl : Int))).setCell ⟨bs, 1, none⟩ (.int .u64 (kp : Int))).heap[wb]? = some (.cells (wdCells lb V (upd W.e i e') mb).toArray 71 (0, 0)) := by
    have hlt := lt_of_block hS
    exact (Keeps.block (setAt (setAt (Keeps.refl (fun k => k = bs) ws) 0 _) 1 _) wb (lt_of_block hSs) (by omega)).trans hSs
   have HZ := Lib.hid hSz
   clear ks bss hSz
   refine wpAnyG_ready (rs := [8, 10]) (by kernel_rfl) (by simp) ?_
   refine AllReadyG.cons (o := _) rfl (fun K hK => ?_) (AllReadyG.cons (o := _) rfl (fun K hK => ?_) AllReadyG.nil)
   ·skip
    go_simp
    refine PC.out.mono ?_
    rintro e wv ⟨rfl, rfl⟩
    go_wp2_with fail
    refine hK.out _ _ (fun _ => hS) ?_
    clear hK K
    try simp only [Act.put, List.setIfInBounds_toArray, List.set_cons_zero, List.set_cons_succ]
    refine wpAnyG_takeL (i := 9) (oi := _) (v := ?vta9) rfl (by kernel_rfl) (by kernel_rfl) (by kernel_rfl) (by kernel_rfl) (fun _ _ _ h => h) (Or.inl ⟨by rfl, ?yta9⟩) hS ?rta9
    case yta9 => (intro W hSw; go_simp; try with_reducible rfl)
    try simp only [Act.put, List.setIfInBounds_toArray, List.set_cons_zero, List.set_cons_succ]
    refine wpAnyG_onlyL (i := 10) (o := _) (by kernel_rfl) rfl (fun K hK => ?_)
    go_simp
    refine hK.out _ _ (fun _ => hSs) ?_
    clear hK K
    try simp only [Act.put, List.setIfInBounds_toArray, List.set_cons_zero, List.set_cons_succ]
    refine wpAnyG_onlyL (i := 11) (o := _) (by kernel_rfl) rfl (fun K hK => ?_)
    go_simp
    refine hK.out _ _ (fun _ => HZ.out) ?_
    clear hK K
    try simp only [Act.put, List.setIfInBounds_toArray, List.set_cons_zero, List.set_cons_succ]
    refine wpAnyG_done (by kernel_rfl) ?_ _
    clear hS hSs
    go_wp2_with fail
    go_meet
    case rel => exact FIN.out
   ·skip
    go_simp
    refine hK.out _ _ (fun _ => hSs) ?_
    clear hK K
    try simp only [Act.put, List.setIfInBounds_toArray, List.set_cons_zero, List.set_cons_succ]
    refine wpAnyG_onlyL (i := 8) (o := _) (by kernel_rfl) rfl (fun K hK => ?_)
    go_simp
    refine PC2.out.mono ?_
    rintro e wv ⟨rfl, rfl⟩
    go_wp2_with fail
    refine hK.out _ _ (fun _ => hSs) ?_
    clear hK K
    try simp only [Act.put, List.setIfInBounds_toArray, List.set_cons_zero, List.set_cons_succ]
    refine wpAnyG_takeL (i := 9) (oi := _) (v := ?vtb9) rfl (by kernel_rfl) (by kernel_rfl) (by kernel_rfl) (by kernel_rfl) (fun _ _ _ h => h) (Or.inl ⟨by rfl, ?ytb9⟩) hSs ?rtb9
    case ytb9 => (intro W hSw; go_simp; try with_reducible rfl)
    try simp only [Act.put, List.setIfInBounds_toArray, List.set_cons_zero, List.set_cons_succ]
    refine wpAnyG_onlyL (i := 11) (o := _) (by kernel_rfl) rfl (fun K hK => ?_)
    go_simp
    refine hK.out _ _ (fun _ => HZ.out) ?_
    clear hK K
    try simp only [Act.put, List.setIfInBounds_toArray, List.set_cons_zero, List.set_cons_succ]
    refine wpAnyG_done (by kernel_rfl) ?_ _
    clear hS hSs
    go_wp2_with fail
    go_meet
    case rel => exact FIN.out
  case rest =>
   obtain ⟨bs, rfl, hbs, bss, kc⟩ := hcut
   have g3 := Y.out.1.oldW kc
   have ho3 := Y.out.2.1.old kc
   simp only [Option.getD_some] at ho3
   obtain ⟨mt, hmt⟩ : ∃ mt, mb true i = mt := ⟨_, rfl⟩
   obtain ⟨rp, rc, hrv, _, _⟩ := ((g3.rows true i (kl, kp)).sees (fun _ => rfl) (by decide)).len
   obtain ⟨rl, hrl⟩ : ∃ n, (F true i (kl, kp)).2.length = n := ⟨_, rfl⟩
   rw [hrl] at hrv
   have hrl2 : rl ≤ 100000 := by rw [← hrl]; exact H.out.2.1.rows true i (kl, kp)
   have hwne : wb ≠ mt := fun e => by have h1 := g3.owb; have h2 := g3.omap true i; rw [hmt, ← e, h1] at h2; cases h2
   have hbne : bs ≠ mt := fun e => by have h2 := ((Y.out.1.maps true i).lt); rw [hmt] at h2; omega
   have hrow : ∀ b, (F true i (kl, kp)).1.ownBlock = some b → b ≠ wb ∧ b ≠ bs ∧ b ≠ mt := fun b hb => by
    have h0 := g3.orow true i (kl, kp) b hb
    have h3 := ((Y.out.1.rows true i (kl, kp)).block b hb).2
    refine ⟨fun e => ?_, fun e => by omega, fun e => ?_⟩
    ·have h1 := g3.owb; rw [← e, h0] at h1; cases h1
    ·have h2 := g3.omap true i; rw [hmt, ← e, h0] at h2; cases h2
   have Z := Lib.hid (And.intro g3 (And.intro ho3 (And.intro bss (And.intro hbs (And.intro kc (And.intro hrv (And.intro hrl (And.intro hwne (And.intro hbne hrow)))))))))
   clear g3 ho3 bss hbs kc hrv hrl hwne hbne hrow
   go_upto_region 6 with fail
   go_cut [] (fun wf => ∃ (own' : Own) (v : Value), Wm w0 wf wb lb (upd R i R') own' mb (putR F true i (kl, kp) (v, (F true i (kl, kp)).2 ++ [((.slice tq m.length tc, m) : Bv)])) V X (W.take i ⟨x0, x1, x2, x3, xd⟩).1 ∧ wf.heap[bs]? = some (.cells #[.int .u64 (kl : Int), .int .u64 (kp : Int)] 74 (0, 0)) ∧ Sees wf (.slice tq m.length tc) m ∧ Grew w wf own own' R (upd R i R'))
   case first =>
    refine wp_region_g (S := fun w' => w'.heap[wb]? = some (.cells (wdCells lb V (upd W.e i e') mb).toArray 71 (0, 0)) ∧ w'.heap[bs]? = some (.cells #[.int .u64 (kl : Int), .int .u64 (kp : Int)] 74 (0, 0))) (M := List.range 14) (by kernel_rfl) ?_
    obtain ⟨wd, hwd⟩ : ∃ wd, wc.drew = wd := ⟨_, rfl⟩
    have KD3 : Hid (Old wc wd) := Lib.hid (by rw [← hwd]; exact (Keeps.refl (fun _ => False) wc).drew)
    have hS : wd.heap[wb]? = some (.cells (wdCells lb V (upd W.e i e') mb).toArray 71 (0, 0)) ∧ wd.heap[bs]? = some (.cells #[.int .u64 (kl : Int), .int .u64 (kp : Int)] 74 (0, 0)) := by rw [← hwd]; exact ⟨Z.out.1.blk, Z.out.2.2.1⟩
    rw [hwd]
    clear hwd
    refine wpAnyG_takeL (i := 0) (oi := _) (v := ?vy0) rfl (by kernel_rfl) (by kernel_rfl) (by kernel_rfl) (by kernel_rfl) (fun _ _ _ h => h) (Or.inl ⟨by rfl, ?yy0⟩) hS ?ry0
    case yy0 => (intro W hSw; obtain ⟨-, -, d1, -⟩ := wd_cells hSw.1 i; rw [HN.out, hmt] at d1; obtain ⟨⟨f0, f1⟩, -⟩ := blk2 hSw.2; go_simp; try with_reducible rfl)
    try simp only [Act.put, List.setIfInBounds_toArray, List.set_cons_zero, List.set_cons_succ]
    refine wpAnyG_takeL (i := 1) (oi := _) (v := ?vy1) rfl (by kernel_rfl) (by kernel_rfl) (by kernel_rfl) (by kernel_rfl) (fun _ _ _ h => h) (Or.inl ⟨by rfl, ?yy1⟩) hS ?ry1
    case yy1 => (intro W hSw; obtain ⟨-, -, d1, -⟩ := wd_cells hSw.1 i; rw [HN.out, hmt] at d1; obtain ⟨⟨f0, f1⟩, -⟩ := blk2 hSw.2; go_simp; try with_reducible rfl)
    try simp only [Act.put, List.setIfInBounds_toArray, List.set_cons_zero, List.set_cons_succ]
    refine wpAnyG_takeL (i := 2) (oi := _) (v := ?vy2) rfl (by kernel_rfl) (by kernel_rfl) (by kernel_rfl) (by kernel_rfl) (fun _ _ _ h => h) (Or.inl ⟨by rfl, ?yy2⟩) hS ?ry2
    case yy2 => (intro W hSw; obtain ⟨-, -, d1, -⟩ := wd_cells hSw.1 i; rw [HN.out, hmt] at d1; obtain ⟨⟨f0, f1⟩, -⟩ := blk2 hSw.2; go_simp; try with_reducible rfl)
    try simp only [Act.put, List.setIfInBounds_toArray, List.set_cons_zero, List.set_cons_succ]
    refine wpAnyG_takeL (i := 3) (oi := _) (v := ?vy3) rfl (by kernel_rfl) (by kernel_rfl) (by kernel_rfl) (by kernel_rfl) (fun _ _ _ h => h) (Or.inl ⟨by rfl, ?yy3⟩) hS ?ry3
    case yy3 => (intro W hSw; obtain ⟨-, -, d1, -⟩ := wd_cells hSw.1 i; rw [HN.out, hmt] at d1; obtain ⟨⟨f0, f1⟩, -⟩ := blk2 hSw.2; go_simp; try with_reducible rfl)
    try simp only [Act.put, List.setIfInBounds_toArray, List.set_cons_zero, List.set_cons_succ]
    refine wpAnyG_takeL (i := 4) (oi := _) (v := ?vy4) rfl (by kernel_rfl) (by kernel_rfl) (by kernel_rfl) (by kernel_rfl) (fun _ _ _ h => h) (Or.inl ⟨by rfl, ?yy4⟩) hS ?ry4
    case yy4 => (intro W hSw; obtain ⟨-, -, d1, -⟩ := wd_cells hSw.1 i; rw [HN.out, hmt] at d1; obtain ⟨⟨f0, f1⟩, -⟩ := blk2 hSw.2; go_simp; try with_reducible rfl)
    try simp only [Act.put, List.setIfInBounds_toArray, List.set_cons_zero, List.set_cons_succ]
    refine wpAnyG_takeL (i := 5) (oi := _) (v := ?vy5) rfl (by kernel_rfl) (by kernel_rfl) (by kernel_rfl) (by kernel_rfl) (fun _ _ _ h => h) (Or.inl ⟨by rfl, ?yy5⟩) hS ?ry5
    case yy5 => (intro W hSw; obtain ⟨-, -, d1, -⟩ := wd_cells hSw.1 i; rw [HN.out, hmt] at d1; obtain ⟨⟨f0, f1⟩, -⟩ := blk2 hSw.2; go_simp; try with_reducible rfl)
    try simp only [Act.put, List.setIfInBounds_toArray, List.set_cons_zero, List.set_cons_succ]
    refine wpAnyG_takeL (i := 6) (oi := _) (v := ?vy6) rfl (by kernel_rfl) (by kernel_rfl) (by kernel_rfl) (by kernel_rfl) (fun _ _ _ h => h) (Or.inl ⟨by rfl, ?yy6⟩) hS ?ry6
    case yy6 => (intro W hSw; obtain ⟨-, -, d1, -⟩ := wd_cells hSw.1 i; rw [HN.out, hmt] at d1; obtain ⟨⟨f0, f1⟩, -⟩ := blk2 hSw.2; go_simp; try with_reducible rfl)
    try simp only [Act.put, List.setIfInBounds_toArray, List.set_cons_zero, List.set_cons_succ]
    refine wpAnyG_takeL (i := 7) (oi := _) (v := ?vy7) rfl (by kernel_rfl) (by kernel_rfl) (by kernel_rfl) (by kernel_rfl) (fun _ _ _ h => h) (Or.inl ⟨by rfl, ?yy7⟩) hS ?ry7
    case yy7 => (intro W hSw; obtain ⟨-, -, d1, -⟩ := wd_cells hSw.1 i; rw [HN.out, hmt] at d1; obtain ⟨⟨f0, f1⟩, -⟩ := blk2 hSw.2; go_simp; try with_reducible rfl)
    try simp only [Act.put, List.setIfInBounds_toArray, List.set_cons_zero, List.set_cons_succ]
    refine wpAnyG_onlyL (i := 8) (o := _) (by kernel_rfl) rfl (fun K hK => ?_)
    go_simp
    obtain ⟨ws, hws⟩ : ∃ ws, wd.alloc (.cells #[.slice tq m.length tc] 32) = ws := ⟨_, rfl⟩
    have ks : Old wd ws := by rw [← hws]; exact (Keeps.refl _ _).alloc _
    have sn : SeesR ws 1 bvL (.slice (some ⟨wd.heap.size, 0, none⟩) 1 1) [((.slice tq m.length tc, m) : Bv)] := by
     rw [← hws]
     exact SeesR.new (k := 1) (enc := bvL) wd _ (0, 0) [((.slice tq m.length tc, m) : Bv)] _ rfl (fun _ => rfl) (by unfold maxLen; simp)
    have hSs : ws.heap[wb]? = some (.cells (wdCells lb V (upd W.e i e') mb).toArray 71 (0, 0)) ∧ ws.heap[bs]? = some (.cells #[.int .u64 (kl : Int), .int .u64 (kp : Int)] 74 (0, 0)) := ⟨(ks.block _ (lt_of_block hS.1) (fun f => f)).trans hS.1, (ks.block _ (lt_of_block hS.2) (fun f => f)).trans hS.2⟩
    have kcs : Old wc ws := KD3.out.trans ks
    have hwdlt : wd.heap.size < ws.heap.size := by rw [← hws]; simp
    rw [hws]
    clear hws
    refine hK.out _ _ (fun _ => hSs) ?_
    clear hK K
    try simp only [Act.put, List.setIfInBounds_toArray, List.set_cons_zero, List.set_cons_succ]
    obtain ⟨st, wm, hme, hst, km⟩ := mapEntry_ses (((Z.out.1.maps true i).keeps kcs (fun f => f))) (kl, kp)
    rw [hmt] at hme hst km
    rw [Z.out.2.2.2.2.2.1] at hme
    have hme : (Instr.mapEntry 68 (.map (some mt)) (.agg #[.int .u64 (kl : Int), .int .u64 (kp : Int)])).run Try.prog ws = .ok (.tuple #[.slice rp rl rc, .int .i64 (st : Int)]) wm := hme
    have hSm : wm.heap[wb]? = some (.cells (wdCells lb V (upd W.e i e') mb).toArray 71 (0, 0)) ∧ wm.heap[bs]? = some (.cells #[.int .u64 (kl : Int), .int .u64 (kp : Int)] 74 (0, 0)) := ⟨(km.block _ (lt_of_block hSs.1) Z.out.2.2.2.2.2.2.2.1).trans hSs.1, (km.block _ (lt_of_block hSs.2) Z.out.2.2.2.2.2.2.2.2.1).trans hSs.2⟩
    have hmlt : mt < wc.heap.size := by rw [← hmt]; exact (Z.out.1.maps true i).lt
    have snm : SeesR wm 1 bvL (.slice (some ⟨wd.heap.size, 0, none⟩) 1 1) [((.slice tq m.length tc, m) : Bv)] := sn.keeps km (fun b hb e => by
     have h1 : wd.heap.size = b := by simpa [Value.ownBlock] using hb
     have := KD3.out.size
     omega)
    have orow : OwnsR wm w0.heap.size 32 1 bvL (.slice rp rl rc) (F true i (kl, kp)).2 := by
     have h1 := ((Z.out.1.rows true i (kl, kp)).old kcs).keeps km (fun b hb => (Z.out.2.2.2.2.2.2.2.2.2 b hb).2.2)
     rw [Z.out.2.2.2.2.2.1] at h1
     exact h1
    have M1 := Lib.hid (And.intro kcs (And.intro hst (And.intro km (And.intro snm (And.intro orow hwdlt)))))
    clear sn ks kcs hst km snm orow hwdlt
    refine wpAnyG_onlyL (i := 9) (o := _) (by kernel_rfl) rfl (fun K hK => ?_)
    go_simp
    refine hK.out _ _ (fun _ => hSm) ?_
    clear hK K
    try simp only [Act.put, List.setIfInBounds_toArray, List.set_cons_zero, List.set_cons_succ]
    clear hme
    refine wpAnyG_takeL (i := 10) (oi := _) (v := ?vya10) rfl (by kernel_rfl) (by kernel_rfl) (by kernel_rfl) (by kernel_rfl) (fun _ _ _ h => h) (Or.inl ⟨by rfl, ?yya10⟩) hSm ?rya10
    case yya10 => (intro W hSw; skip; go_simp; try with_reducible rfl)
    try simp only [Act.put, List.setIfInBounds_toArray, List.set_cons_zero, List.set_cons_succ]
    refine wpAnyG_takeL (i := 12) (oi := _) (v := ?vyb12) rfl (by kernel_rfl) (by kernel_rfl) (by kernel_rfl) (by kernel_rfl) (fun _ _ _ h => h) (Or.inl ⟨by rfl, ?yyb12⟩) hSm ?ryb12
    case yyb12 => (intro W hSw; skip; go_simp; try with_reducible rfl)
    try simp only [Act.put, List.setIfInBounds_toArray, List.set_cons_zero, List.set_cons_succ]
    have HNN := Lib.hid (And.intro (show (F true i (kl, kp)).2.length + [((.slice tq m.length tc, m) : Bv)].length ≤ maxLen by rw [Z.out.2.2.2.2.2.2.1]; unfold maxLen; simp; omega) (And.intro (show ((F true i (kl, kp)).2.length + [((.slice tq m.length tc, m) : Bv)].length) * 24 ≤ 140737488355328 by rw [Z.out.2.2.2.2.2.2.1]; simp; omega)
     (Nat.le_trans Z.out.1.old.size (Nat.le_trans M1.out.1.size M1.out.2.2.1.size))))
    refine wpAnyG_onlyL (i := 11) (o := _) (by kernel_rfl) rfl (fun K hK => ?_)
    refine step_append_rows (P := Try.prog) rfl _ _ 53 rfl w0.heap.size 32 1 24 bvL _ Try.underlying53 Try.infoSl rfl (by decide) _ (F true i (kl, kp)).2 (by rfl) M1.out.2.2.2.2.1 _ [((.slice tq m.length tc, m) : Bv)] (by rfl) M1.out.2.2.2.1 (fun _ _ => rfl) (by simp [bvL, Value.oneCell']) HNN.out.1 HNN.out.2.1 HNN.out.2.2 ?_
    intro v8 w8 ho8 hg8 hv8
    have hrb : ∀ b, (Value.slice rp rl rc).ownBlock = some b → b ≠ wb ∧ b ≠ bs ∧ b ≠ mt := by rw [← Z.out.2.2.2.2.2.1]; exact Z.out.2.2.2.2.2.2.2.2.2
    have k8 : Keeps (fun b => (Value.slice rp rl rc).ownBlock = some b) wm w8 := (Keeps.refl _ _).grown hg8 (fun b hb _ => hb)
    have hS8 : w8.heap[wb]? = some (.cells (wdCells lb V (upd W.e i e') mb).toArray 71 (0, 0)) ∧ w8.heap[bs]? = some (.cells #[.int .u64 (kl : Int), .int .u64 (kp : Int)] 74 (0, 0)) := ⟨(k8.block _ (lt_of_block hSm.1) (fun e => (hrb _ e).1 rfl)).trans hSm.1, (k8.block _ (lt_of_block hSm.2) (fun e => (hrb _ e).2.1 rfl)).trans hSm.2⟩
    have hst8 := M1.out.2.1.keeps k8 (fun e => (hrb _ e).2.2 rfl)
    obtain ⟨wf, hes, hsf, kf⟩ := entryStore_ses hst8 68 (v8, (F true i (kl, kp)).2 ++ [((.slice tq m.length tc, m) : Bv)])
    obtain ⟨p8, c8, e8, _, _⟩ := (ho8.sees (fun _ => rfl) (by decide)).len
    obtain ⟨r8, hr8⟩ : ∃ n, ((F true i (kl, kp)).2 ++ [((.slice tq m.length tc, m) : Bv)]).length = n := ⟨_, rfl⟩
    rw [hr8] at e8
    subst e8
    have hes : (Instr.entryStore 68 (.map (some mt)) (.int .i64 (st : Int)) (.slice p8 r8 c8)).run Try.prog w8 = .ok () wf := hes
    have hS9 : wf.heap[wb]? = some (.cells (wdCells lb V (upd W.e i e') mb).toArray 71 (0, 0)) ∧ wf.heap[bs]? = some (.cells #[.int .u64 (kl : Int), .int .u64 (kp : Int)] 74 (0, 0)) := ⟨(kf.block _ (lt_of_block hS8.1) Z.out.2.2.2.2.2.2.2.1).trans hS8.1, (kf.block _ (lt_of_block hS8.2) Z.out.2.2.2.2.2.2.2.2.1).trans hS8.2⟩
    have M2 := Lib.hid (And.intro ho8 (And.intro k8 (And.intro hv8 (And.intro hsf (And.intro kf (And.intro hS9.2 hr8))))))
    clear ho8 hg8 hv8 k8 hst8 hsf kf hr8 hrb
    refine hK.out _ _ (fun _ => hS8) ?_
    clear hK K
    try simp only [Act.put, List.setIfInBounds_toArray, List.set_cons_zero, List.set_cons_succ]
    refine wpAnyG_onlyL (i := 13) (o := _) (by kernel_rfl) rfl (fun K hK => ?_)
    go_simp
    refine hK.out _ _ (fun _ => hS9) ?_
    clear hK K
    try simp only [Act.put, List.setIfInBounds_toArray, List.set_cons_zero, List.set_cons_succ]
    refine wpAnyG_done (by kernel_rfl) ?_ _
    clear hes hS hSs hSm hS8 hS9
    go_wp2_with fail
    go_meet
    case rel =>
     obtain ⟨g3, ho3, bss, hbs, kc, hrv, hrl, hwne, hbne, hrow⟩ := Z.out
     obtain ⟨kcs, hst, km, snm, orow, hwdlt⟩ := M1.out
     obtain ⟨ho8, k8, hv8, hsf, kf, hb9, hr8⟩ := M2.out
     have hTe := Y.out.2.2.2.2.2.2.1
     have hlife := Y.out.2.2.2.2.2.1
     have z1 := kcs.size
     have z2 := km.size
     have z4 := kc.size
     have omt : own mt = some (.mp true i) := by rw [← hmt]; exact g3.omap true i
     have omr : ∀ b, (Value.slice rp rl rc).ownBlock = some b → own b = some (.row true i (kl, kp)) := by rw [← hrv]; exact g3.orow true i (kl, kp)
     have ew : (W.take i ⟨x0, x1, x2, x3, xd⟩).1 = { W with e := upd W.e i e', told := upd W.told i (putKey (W.told i) (kl, kp) m) } := by
      unfold Wd.take
      rw [hTe]
      show ({ W with e := upd W.e i e', told := upd W.told i (putKey (W.told i) (e'.life, e'.peer) m) } : Wd) = _
      rw [E2.out.1, E2.out.2]
     have hk : Keeps (fun b => ∃ c, own b = some c ∧ (c = .mp true i ∨ c = .row true i (kl, kp))) wc wf :=
      (((kcs.weaken (fun _ _ f => f.elim)).trans (km.weaken (fun b _ e => by subst e; exact ⟨_, omt, .inl rfl⟩))).trans (k8.weaken (fun b _ e => ⟨_, omr b e, .inr rfl⟩))).trans (kf.weaken (fun b _ e => by subst e; exact ⟨_, omt, .inl rfl⟩))
     have hmtlt : mt < wc.heap.size := by rw [← hmt]; exact (g3.maps true i).lt
     have hvo : ∀ b, (Value.slice p8 r8 c8).ownBlock = some b → (Value.slice rp rl rc).ownBlock = some b ∨ wm.heap.size = b := fun b hb => by
      rcases hv8 with e | e
      ·rw [e] at hb; exact .inl hb
      ·rw [e] at hb; exact .inr (Option.some.inj hb)
     have hx : ∀ w', Keeps (fun b => ownB own b ∨ (Value.slice p8 r8 c8).ownBlock = some b ∨ upd R i R' false b ∨ upd R i R' true b) wf w' → Sees w' (.slice tq m.length tc) m := fun w' hw' => by
      refine (ho3.sees.keeps hk (fun b hb ⟨c, e, _⟩ => (HB.out b hb).1 ⟨c, e⟩)).keeps hw' (fun b hb e => ?_)
      obtain ⟨n1, n2, n3⟩ := HB.out b hb
      rcases e with e | e | e | e
      ·exact n1 e
      ·rcases hvo b e with e | e
       ·exact n1 ⟨_, omr b e⟩
       ·omega
      ·exact n2 false e
      ·exact n2 true e
     obtain ⟨own', g9, hob9⟩ := g3.row true i (kl, kp) (.slice p8 r8 c8) ((.slice tq m.length tc, m) : Bv) hk (by rw [hmt]; exact hsf) (ho8.keeps kf (fun b hb e => by
      subst e
      rcases hvo b hb with e | e
      ·have h1 := omr b e; rw [omt] at h1; cases h1
      ·omega)) (fun b hb => by
      rcases hvo b hb with e | e
      ·left; rw [hrv]; exact e
      ·right; omega) hx (by
      have hr := Y.out.2.1.sees
      have := taken_len (W.e i) ⟨x0, x1, x2, x3, xd⟩ hTe
      rw [this]
      exact H.out.2.1.len)
     refine ⟨own', .slice p8 r8 c8, ?_, hb9, hx wf (Keeps.refl _ _), (GW.out.old kc).trans (Grew.mine _ (hk.weaken (fun b _ e => by obtain ⟨c, e, _⟩ := e; exact ⟨c, e⟩)) hob9)⟩
     rw [ew]
     exact g9
   case rest =>
    obtain ⟨own', v, g, hbs, hsm, hgw⟩ := hcut
    have GW2 := Lib.hid hgw
    clear hgw
    have hTe := Y.out.2.2.2.2.2.2.1
    have hT := H.out.2.2.1
    have hq : (W.sent (!i) (kp, kl))[(W.told i (kl, kp)).length]? = some m := by
     have h0 : (W.take i ⟨x0, x1, x2, x3, xd⟩).2 = true := hT
     unfold Wd.take at h0
     rw [hTe] at h0
     have := of_decide_eq_true h0
     have hkey : e'.key = (kl, kp) := by show (e'.life, e'.peer) = _; rw [E2.out.1, E2.out.2]
     rw [hkey, E2.out.1, E2.out.2] at this
     exact this
    have hsent : (F false (!i) (kp, kl)).2.map (·.2) = W.sent (!i) (kp, kl) := (H.out.1.sent _ _).symm
    have htold : ((F true i (kl, kp)).2).length = (W.told i (kl, kp)).length := by rw [H.out.1.told]; simp
    obtain ⟨tl, htl⟩ : ∃ n, (W.told i (kl, kp)).length = n := ⟨_, rfl⟩
    have e1 : putR F true i (kl, kp) (v, (F true i (kl, kp)).2 ++ [((.slice tq m.length tc, m) : Bv)]) false (!i) = F false (!i) := by unfold putR; rw [if_neg (by simp)]
    have e2 : putR F true i (kl, kp) (v, (F true i (kl, kp)).2 ++ [((.slice tq m.length tc, m) : Bv)]) true i (kl, kp) = (v, (F true i (kl, kp)).2 ++ [((.slice tq m.length tc, m) : Bv)]) := by rw [putR_at, if_pos ⟨rfl, rfl, rfl⟩]
    have m1 := g.maps false (!i)
    rw [e1] at m1
    have m2 := g.maps true i
    have r1 := g.rows false (!i) (kp, kl)
    rw [e1] at r1
    have r2 := g.rows true i (kl, kp)
    have d1 := (g.data wc (Keeps.refl _ _)).1 false (!i) (kp, kl)
    rw [e1] at d1
    obtain ⟨⟨sbv, sbd⟩, hsx, hsd⟩ : ∃ x : Bv, (F false (!i) (kp, kl)).2[tl]? = some x ∧ x.2 = m := by
     rw [← hsent, htl, List.getElem?_map] at hq
     obtain ⟨x, hx, rfl⟩ := Option.map_eq_some_iff.1 hq
     exact ⟨x, hx, rfl⟩
    simp only at hsd
    subst hsd
    have hsl : tl < (F false (!i) (kp, kl)).2.length := (List.getElem?_eq_some_iff.1 hsx).1
    obtain ⟨sb, so, sc, hsv, _, _, hat⟩ := (r1.sees (fun _ => rfl) (by decide)).at (by omega)
    obtain ⟨sn, hsn⟩ : ∃ n, (F false (!i) (kp, kl)).2.length = n := ⟨_, rfl⟩
    rw [hsn] at hsv hsl
    have hcell := hat tl _ hsx 0 _ rfl
    have hds := (d1 _ (List.mem_of_getElem? hsx)).1
    simp only at hds
    obtain ⟨bvp, bvc, rfl, _, _⟩ := hds.len
    obtain ⟨vp, vc, hv2, _, _⟩ := (r2.sees (fun _ => rfl) (by decide)).len
    rw [e2] at hv2
    have hvl : ((F true i (kl, kp)).2 ++ [((.slice tq sbd.length tc, sbd) : Bv)]).length = tl + 1 := by rw [List.length_append, htold, htl]; rfl
    obtain ⟨t1, ht1⟩ : ∃ t1, tl + 1 = t1 := ⟨_, rfl⟩
    have hsn2 : sn ≤ 100000 := by rw [← hsn]; exact H.out.2.1.rows false (!i) (kp, kl)
    obtain ⟨ms, hms⟩ : ∃ x, mb false (!i) = x := ⟨_, rfl⟩
    obtain ⟨mt, hmt⟩ : ∃ x, mb true i = x := ⟨_, rfl⟩
    have L7 : ∀ n, (Instr.lookup 68 (.map (some ms)) (.agg #[.int .u64 (kp : Int), .int .u64 (kl : Int)]) false).run Try.prog (wc.drewN n) = .ok (.slice (some ⟨sb, so, none⟩) sn sc) (wc.drewN n) := fun n => by
     have := lookup_ses (m1.keeps ((Keeps.refl (fun _ => False) wc).drewN n) (fun f => f)) (kp, kl)
     rw [hms, hsv] at this
     exact this
    have L8 : ∀ n, (Instr.lookup 68 (.map (some mt)) (.agg #[.int .u64 (kl : Int), .int .u64 (kp : Int)]) false).run Try.prog (wc.drewN n) = .ok (.slice vp t1 vc) (wc.drewN n) := fun n => by
     have := lookup_ses (m2.keeps ((Keeps.refl (fun _ => False) wc).drewN n) (fun f => f)) (kl, kp)
     rw [e2] at this
     simp only at hv2
     rw [hmt, hv2, hvl, ht1] at this
     exact this
    have L9 : ∀ a b, (Instr.lookup 68 (.map (some mt)) (.agg #[.int .u64 (kl : Int), .int .u64 (kp : Int)]) false).run Try.prog ((wc.drewN a).drewN b) = .ok (.slice vp t1 vc) ((wc.drewN a).drewN b) := fun a b => by
     have := lookup_ses (m2.keeps (((Keeps.refl (fun _ => False) wc).drewN a).drewN b) (fun f => f)) (kl, kp)
     rw [e2] at this
     simp only at hv2
     rw [hmt, hv2, hvl, ht1] at this
     exact this
    have EQ := Lib.hid (fun W (k : Old wc W) => equal_any _ _ _ _ W (hds.old k) (hsm.old k))
    simp only [beq_self_eq_true] at EQ
    obtain ⟨-, dd6, -, -⟩ := wd_cells g.blk (!i)
    obtain ⟨-, -, dd8, -⟩ := wd_cells g.blk i
    rw [hms] at dd6
    rw [hmt, HN.out] at dd8
    obtain ⟨jn, hjn⟩ : ∃ j, iv (!i) = j := ⟨_, rfl⟩
    have hsub : IntKind.i64.wrap (1 - (n : Int)) = (jn : Int) := by
     have h1 := iv_not i
     rw [hjn, HN.out] at h1
     rw [← h1, IntKind.wrap_i64]
     have := iv_lt (!i)
     omega
    rw [hjn] at dd6
    have hj1 : (0 : Int) ≤ (jn : Int) := by omega
    have hj2 : (jn : Int) < 2 := by have := iv_lt (!i); omega
    obtain ⟨⟨f0, f1⟩, -⟩ := blk2 hbs
    have hw1' : IntKind.i64.wrap ((t1 : Int) - 1) = (tl : Int) := by rw [IntKind.wrap_i64]; omega
    have hle1 : decide ((t1 : Int) ≤ (sn : Int)) = true := by simp; omega
    have hle2 : decide (t1 ≤ sn) = true := by simp; omega
    have ht0 : (0 : Int) ≤ (tl : Int) := by omega
    have ht2 : (tl : Int) < (sn : Int) := by omega
    have hcell : wc.cell? ⟨sb, so + tl, none⟩ = some (.slice bvp sbd.length bvc) := by simpa using hcell
    have Q := Lib.hid g
    clear g hbs hsm hTe hT hq hsent htold e1 e2 m1 m2 r1 r2 d1 hsx hat hds hv2 hvl hsv hms hmt hjn
    go_upto_region 7 with fail
    go_quiet (fail)
    go_wp2_with fail
    go_quiet (fail)
    go_wp2_with fail
    refine (EQ.out _ ((Keeps.refl (fun _ => False) wc).drewN _)).mono ?_
    rintro e wz ⟨rfl, rfl⟩
    go_wp2_with fail
    go_ret
    exact ⟨rfl, _, _, _, _, _, _, _, Q.out.oldW ((Keeps.refl (fun _ => False) wc).drewN _), GW2.out.old ((Keeps.refl (fun _ => False) wc).drewN _)⟩
theorem wtake_any {w0 w : World} {wb : Nat} {lb : Bool → Nat} {R : Bool → Nat → Prop} {own : Own} {mb : Bool → Bool → Nat} {F : SeRows} {V : Bool → Value} {X : Bool → List Pv} {W : Wd} (i : Bool) (p : Pv) (h : Wm w0 w wb lb R own mb F V X W) (hp : TkIn w R F W i p) (hT : (W.take i p.plain).2 = true) :
  Calls Try.prog 28 #[.pointer (some ⟨wb, 0, none⟩), .int .i64 (iv i : Int), .agg p.cells.toArray] w fun e w' => e = .returned (.bool true) ∧ Wx w0 w' wb (W.take i p.plain).1 := by
 refine (wtake_y i p h hp hT).mono fun e w' hh => ⟨hh.1, hh.2.x⟩
end Go.Proofs.Ytllnlimbfoingaa
