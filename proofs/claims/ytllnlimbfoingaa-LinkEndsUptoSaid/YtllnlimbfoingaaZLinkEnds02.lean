/- DERIVED. Chapter 20: the laws' world, made. -/
import Derived.Test.YtllnlimbfoingaaZLinkEnds01
import Derived.Deep.CutBlock
namespace Go.Proofs.Ytllnlimbfoingaa
open Go.RowKit Go.Conc

def nilF : Nat × Nat → Value × List Bv := fun _ => (.slice none 0 0, [])
/-- the world's block, k sides laid -/
def Fr (w wm : World) (wb : Nat) : Nat → Prop
 | 0 => wm.heap[wb]? = some (.cells #[.pointer none, .slice none 0 0, .int .u64 0, .pointer none, .slice none 0 0, .int .u64 0, .map none, .map none, .map none, .map none] 71 (0, 0)) ∧ Old w wm ∧ w.heap.size ≤ wb
 | 1 => ∃ l0 m00 m10, wm.heap[wb]? = some (.cells #[.pointer (some ⟨l0, 0, none⟩), .slice none 0 0, .int .u64 1, .pointer none, .slice none 0 0, .int .u64 0, .map (some m00), .map none, .map (some m10), .map none] 71 (0, 0)) ∧ Old w wm ∧ w.heap.size ≤ wb ∧
   LkM wm l0 (Lv.new 1 (l0 + 1)) ∧ SeM wm m00 nilF ∧ SeM wm m10 nilF ∧ wb < l0 ∧ l0 + 1 < m00 ∧ l0 + 1 < m10 ∧ m00 ≠ m10
 | _ => ∃ l0 m00 m10 l1 m01 m11, wm.heap[wb]? = some (.cells #[.pointer (some ⟨l0, 0, none⟩), .slice none 0 0, .int .u64 1, .pointer (some ⟨l1, 0, none⟩), .slice none 0 0, .int .u64 1, .map (some m00), .map (some m01), .map (some m10), .map (some m11)] 71 (0, 0)) ∧ Old w wm ∧ w.heap.size ≤ wb ∧
   LkM wm l0 (Lv.new 1 (l0 + 1)) ∧ SeM wm m00 nilF ∧ SeM wm m10 nilF ∧ wb < l0 ∧ l0 + 1 < m00 ∧ l0 + 1 < m10 ∧ m00 ≠ m10 ∧
   LkM wm l1 (Lv.new 1 (l1 + 1)) ∧ SeM wm m01 nilF ∧ SeM wm m11 nilF ∧ m00 < l1 ∧ m10 < l1 ∧ l1 + 1 < m01 ∧ l1 + 1 < m11 ∧ m01 ≠ m11
theorem blk10 {w : World} {b : Nat} {t : TypeId} {a0 a1 a2 a3 a4 a5 a6 a7 a8 a9 : Value} (h : w.heap[b]? = some (.cells #[a0, a1, a2, a3, a4, a5, a6, a7, a8, a9] t (0, 0))) :
  (w.cell? ⟨b, 0, none⟩ = some a0 ∧ w.frozen? ⟨b, 0, none⟩ = false) ∧ (w.cell? ⟨b, 1, none⟩ = some a1 ∧ w.frozen? ⟨b, 1, none⟩ = false) ∧ (w.cell? ⟨b, 2, none⟩ = some a2 ∧ w.frozen? ⟨b, 2, none⟩ = false) ∧ (w.cell? ⟨b, 3, none⟩ = some a3 ∧ w.frozen? ⟨b, 3, none⟩ = false) ∧
  (w.cell? ⟨b, 4, none⟩ = some a4 ∧ w.frozen? ⟨b, 4, none⟩ = false) ∧ (w.cell? ⟨b, 5, none⟩ = some a5 ∧ w.frozen? ⟨b, 5, none⟩ = false) ∧ (w.cell? ⟨b, 6, none⟩ = some a6 ∧ w.frozen? ⟨b, 6, none⟩ = false) ∧ (w.cell? ⟨b, 7, none⟩ = some a7 ∧ w.frozen? ⟨b, 7, none⟩ = false) ∧
  (w.cell? ⟨b, 8, none⟩ = some a8 ∧ w.frozen? ⟨b, 8, none⟩ = false) ∧ (w.cell? ⟨b, 9, none⟩ = some a9 ∧ w.frozen? ⟨b, 9, none⟩ = false) := by simp [World.cell?, World.frozen?, h]
theorem heap_alloc_ne (W : World) (o : Obj) (b : Nat) (h : b ≠ W.heap.size) : (W.alloc o).heap[b]? = W.heap[b]? := by
 show (W.heap.push o)[b]? = _
 rw [Array.getElem?_push, if_neg h]
theorem cell_alloc_ne (W : World) (o : Obj) (b k : Nat) (h : b ≠ W.heap.size) : (W.alloc o).cell? ⟨b, k, none⟩ = W.cell? ⟨b, k, none⟩ := World.cell?_of_block (w := W) (heap_alloc_ne W o b h)
theorem frozen_alloc_ne (W : World) (o : Obj) (b k : Nat) (h : b ≠ W.heap.size) : (W.alloc o).frozen? ⟨b, k, none⟩ = W.frozen? ⟨b, k, none⟩ := World.frozen?_of_block (w := W) (heap_alloc_ne W o b h)
/-- two maps made and laid into the block, in whatever order -/
theorem laid_a {w2 : World} {wb o q : Nat} {cs : Array Value} {t : TypeId} (h : w2.heap[wb]? = some (.cells cs t (0, 0))) {x y : Nat} {wf : World} (hf : wf = ((((w2.alloc (.map #[] 0)).alloc (.map #[] 0)).setCell ⟨wb, o, none⟩ (.map (some x))).setCell ⟨wb, q, none⟩ (.map (some y))).drew) (hx : x = w2.heap.size ∧ y = w2.heap.size + 1 ∨ x = w2.heap.size + 1 ∧ y = w2.heap.size) :
  wf.heap[wb]? = some (.cells ((cs.setIfInBounds o (.map (some x))).setIfInBounds q (.map (some y))) t (0, 0)) ∧ SeM wf x nilF ∧ SeM wf y nilF ∧ Keeps (fun b => b = wb) w2 wf ∧ x ≠ y ∧ w2.heap.size ≤ x ∧ w2.heap.size ≤ y := by
 have hlt := lt_of_block h
 subst hf
 have b2 : ((w2.alloc (.map #[] 0)).alloc (.map #[] 0)).heap[wb]? = some (.cells cs t (0, 0)) := by rw [heap_alloc_ne _ _ _ (by simp; omega), heap_alloc_ne _ _ _ (by omega)]; exact h
 have s0 : SeM ((w2.alloc (.map #[] 0)).alloc (.map #[] 0)) w2.heap.size nilF := (SeM.new w2).keeps ((Keeps.refl (fun _ => False) _).alloc _) (fun f => f)
 have s1 : SeM ((w2.alloc (.map #[] 0)).alloc (.map #[] 0)) (w2.heap.size + 1) nilF := by have := SeM.new (w2.alloc (.map #[] 0)); rw [show (w2.alloc (.map #[] 0)).heap.size = w2.heap.size + 1 by simp] at this; exact this
 have kk : Keeps (fun b => b = wb) ((w2.alloc (.map #[] 0)).alloc (.map #[] 0)) (((((w2.alloc (.map #[] 0)).alloc (.map #[] 0)).setCell ⟨wb, o, none⟩ (.map (some x))).setCell ⟨wb, q, none⟩ (.map (some y))).drew) := (setAt (setAt (Keeps.refl _ _) o _) q _).drew
 have hh := heap_setCell_same _ wb q _ _ (.map (some y)) (heap_setCell_same _ wb o _ _ (.map (some x)) b2)
 refine ⟨hh, ?_, ?_, (((Keeps.refl _ _).alloc _).alloc _).trans kk, by omega, by omega, by omega⟩
 ·rcases hx with ⟨rfl, _⟩ | ⟨rfl, _⟩
  ·exact s0.keeps kk (by omega)
  ·exact s1.keeps kk (by omega)
 ·rcases hx with ⟨_, rfl⟩ | ⟨_, rfl⟩
  ·exact s1.keeps kk (by omega)
  ·exact s0.keeps kk (by omega)
theorem laid_b {w2 : World} {wb o q : Nat} {cs : Array Value} {t : TypeId} (h : w2.heap[wb]? = some (.cells cs t (0, 0))) {wf : World} (hf : wf = ((((w2.alloc (.map #[] 0)).setCell ⟨wb, o, none⟩ (.map (some w2.heap.size))).alloc (.map #[] 0)).setCell ⟨wb, q, none⟩ (.map (some (w2.heap.size + 1)))).drew) :
  wf.heap[wb]? = some (.cells ((cs.setIfInBounds o (.map (some w2.heap.size))).setIfInBounds q (.map (some (w2.heap.size + 1)))) t (0, 0)) ∧ SeM wf w2.heap.size nilF ∧ SeM wf (w2.heap.size + 1) nilF ∧ Keeps (fun b => b = wb) w2 wf ∧ w2.heap.size ≠ w2.heap.size + 1 ∧ w2.heap.size ≤ w2.heap.size ∧ w2.heap.size ≤ w2.heap.size + 1 := by
 have hlt := lt_of_block h
 subst hf
 have b1 : (w2.alloc (.map #[] 0)).heap[wb]? = some (.cells cs t (0, 0)) := by rw [heap_alloc_ne _ _ _ (by omega)]; exact h
 have k1 : Keeps (fun b => b = wb) (w2.alloc (.map #[] 0)) ((w2.alloc (.map #[] 0)).setCell ⟨wb, o, none⟩ (.map (some w2.heap.size))) := setAt (Keeps.refl _ _) o _
 have h1 := heap_setCell_same _ wb o _ _ (.map (some w2.heap.size)) b1
 obtain ⟨w3, hw3⟩ : ∃ w3, (w2.alloc (.map #[] 0)).setCell ⟨wb, o, none⟩ (.map (some w2.heap.size)) = w3 := ⟨_, rfl⟩
 have z3 : w3.heap.size = w2.heap.size + 1 := by rw [← hw3]; simp [World.setCell]
 rw [hw3] at k1 h1 ⊢
 have b2 : (w3.alloc (.map #[] 0)).heap[wb]? = _ := (heap_alloc_ne _ _ _ (by omega)).trans h1
 have kk : Keeps (fun b => b = wb) (w3.alloc (.map #[] 0)) (((w3.alloc (.map #[] 0)).setCell ⟨wb, q, none⟩ (.map (some (w2.heap.size + 1)))).drew) := (setAt (Keeps.refl _ _) q _).drew
 have s0 : SeM (w3.alloc (.map #[] 0)) w2.heap.size nilF := ((SeM.new w2).keeps k1 (by omega)).keeps ((Keeps.refl (fun _ => False) _).alloc _) (fun f => f)
 have s1 : SeM (w3.alloc (.map #[] 0)) (w2.heap.size + 1) nilF := by rw [← z3]; exact SeM.new w3
 have hh := heap_setCell_same _ wb q _ _ (.map (some (w2.heap.size + 1))) b2
 exact ⟨hh, s0.keeps kk (by omega), s1.keeps kk (by omega), ((((Keeps.refl _ _).alloc _).trans k1).alloc _).trans kk, by omega, by omega, by omega⟩
theorem fr1_of {w wo w1 w2 wf : World} {wb l0 ma mc : Nat} (g : Old w wo) (hw : w.heap.size ≤ wb) (hlt : wb < wo.heap.size) (hl : wo.heap.size = l0) (m1 : LkM w1 l0 (Lv.new 1 (l0 + 1))) (o1 : Old wo w1) (z1 : l0 + 2 ≤ w1.heap.size) (k2 : Keeps (fun b => b = wb) w1 w2)
  (p : wf.heap[wb]? = some (.cells #[.pointer (some ⟨l0, 0, none⟩), .slice none 0 0, .int .u64 1, .pointer none, .slice none 0 0, .int .u64 0, .map (some ma), .map none, .map (some mc), .map none] 71 (0, 0)) ∧ SeM wf ma nilF ∧ SeM wf mc nilF ∧ Keeps (fun b => b = wb) w2 wf ∧ ma ≠ mc ∧ w2.heap.size ≤ ma ∧ w2.heap.size ≤ mc) : Fr w wf wb 1 := by
 obtain ⟨hh, s0, s1, kk, ne, g1, g2⟩ := p
 have kz := k2.trans kk
 have z2 := k2.size
 have hwo := g.size
 refine ⟨l0, ma, mc, hh, (g.trans o1).then kz (fun i hi e => by omega), hw, m1.keeps kz (by omega) (by show ¬ l0 + 1 = wb; omega), s0, s1, by omega, by omega, by omega, ne⟩
theorem fr2_of {w wo w1 w2 wf : World} {wb l0 m00 m10 l1 ma mc : Nat} (g : Old w wo) (hw : w.heap.size ≤ wb) (hlt : wb < wo.heap.size) (ml0 : LkM wo l0 (Lv.new 1 (l0 + 1))) (ms0 : SeM wo m00 nilF) (ms1 : SeM wo m10 nilF) (r1 : wb < l0) (r2 : l0 + 1 < m00) (r3 : l0 + 1 < m10) (r4 : m00 ≠ m10)
  (hl : wo.heap.size = l1) (m1 : LkM w1 l1 (Lv.new 1 (l1 + 1))) (o1 : Old wo w1) (z1 : l1 + 2 ≤ w1.heap.size) (k2 : Keeps (fun b => b = wb) w1 w2)
  (p : wf.heap[wb]? = some (.cells #[.pointer (some ⟨l0, 0, none⟩), .slice none 0 0, .int .u64 1, .pointer (some ⟨l1, 0, none⟩), .slice none 0 0, .int .u64 1, .map (some m00), .map (some ma), .map (some m10), .map (some mc)] 71 (0, 0)) ∧ SeM wf ma nilF ∧ SeM wf mc nilF ∧ Keeps (fun b => b = wb) w2 wf ∧ ma ≠ mc ∧ w2.heap.size ≤ ma ∧ w2.heap.size ≤ mc) : Fr w wf wb 2 := by
 obtain ⟨hh, s0, s1, kk, ne, g1, g2⟩ := p
 have kz := k2.trans kk
 have z2 := k2.size
 have hwo := g.size
 have h1 := ms0.lt
 have h2 := ms1.lt
 have ko : Keeps (fun b => b = wb) wo wf := (o1.weaken (fun _ _ f => f.elim)).trans kz
 exact ⟨l0, m00, m10, l1, ma, mc, hh, (g.trans o1).then kz (fun i hi e => by omega), hw, ml0.keeps ko (by omega) (by show ¬ l0 + 1 = wb; omega), ms0.keeps ko (by omega), ms1.keeps ko (by omega), r1, r2, r3, r4, m1.keeps kz (by omega) (by show ¬ l1 + 1 = wb; omega), s0, s1, by omega, by omega, by omega, by omega, ne⟩
theorem fr_done {w wm : World} {wb : Nat} (h : Fr w wm wb 2) : Wx w wm wb Wd.fresh := by
 obtain ⟨l0, m00, m10, l1, m01, m11, hb, ho, hw, a1, a2, a3, a4, a5, a6, a7, b1, b2, b3, b4, b5, b6, b7, b8⟩ := h
 have hlb := lt_of_block hb
 have x1 := a2.lt
 have x2 := a3.lt
 have x3 := b2.lt
 have x4 := b3.lt
 have x5 := b1.2.1.lt
 have hx5 : l1 + 1 < wm.heap.size := x5
 refine ⟨aw l0 l1, aw (fun k => k = l0 ∨ k = l0 + 1) (fun k => k = l1 ∨ k = l1 + 1), fun k => if k = wb then some .wb else if k = m00 then some (.mp false false) else if k = m01 then some (.mp false true) else if k = m10 then some (.mp true false) else if k = m11 then some (.mp true true) else none,
  fun s i => cond s (cond i m11 m10) (cond i m01 m00), fun _ _ => nilF, fun _ => .slice none 0 0, fun _ => [], ?_⟩
 have hown : ∀ k, ownB (fun k => if k = wb then some Cp.wb else if k = m00 then some (.mp false false) else if k = m01 then some (.mp false true) else if k = m10 then some (.mp true false) else if k = m11 then some (.mp true true) else none) k → k = wb ∨ k = m00 ∨ k = m01 ∨ k = m10 ∨ k = m11 := fun k ⟨c, e⟩ => by
  dsimp only at e
  repeat' split at e
  all_goals first | (cases e; done) | omega
 refine ⟨fun i => ?_, ?_, by simp, fun s i => ?_, fun s i => ?_, fun s i k => OwnsR.nil _ _, fun s i k b hb => (by cases hb), fun i => OwnsR.nil _ _, fun i b hb => (by cases hb), fun w' _ => ⟨fun s i k x hx => (by cases hx), fun i x hx => (by cases hx)⟩, fun k e => ?_, ho, fun _ _ => rfl, fun _ _ => rfl, fun _ => rfl⟩
 ·cases i
  ·refine ⟨Lv.new 1 (l0 + 1), rfl, a1, .inl rfl, .inr rfl, fun k t r => ?_, fun k r => ?_, fun k t => ?_, fun w2 _ => Lv.new_reads _ _ _⟩
   ·rcases t with t | t
    ·simp only [aw, Bool.not_false, cond] at t r; omega
    ·have := hown k t; simp only [aw, cond] at r; omega
   ·simp only [aw, cond] at r; omega
   ·rcases t with t | t
    ·simp only [aw, Bool.not_false, cond] at t; omega
    ·have := hown k t; omega
  ·refine ⟨Lv.new 1 (l1 + 1), rfl, b1, .inl rfl, .inr rfl, fun k t r => ?_, fun k r => ?_, fun k t => ?_, fun w2 _ => Lv.new_reads _ _ _⟩
   ·rcases t with t | t
    ·simp only [aw, Bool.not_true, cond] at t r; omega
    ·have := hown k t; simp only [aw, cond] at r; omega
   ·simp only [aw, cond] at r; omega
   ·rcases t with t | t
    ·simp only [aw, Bool.not_true, cond] at t; omega
    ·have := hown k t; omega
 ·exact hb
 ·cases s <;> cases i
  ·exact a2
  ·exact b2
  ·exact a3
  ·exact b3
 ·have e1 : m00 ≠ wb := by omega
  have e2 : m01 ≠ wb := by omega
  have e3 : m10 ≠ wb := by omega
  have e4 : m11 ≠ wb := by omega
  have e5 : m01 ≠ m00 := by omega
  have e6 : m10 ≠ m00 := by omega
  have e7 : m11 ≠ m00 := by omega
  have e8 : m10 ≠ m01 := by omega
  have e9 : m11 ≠ m01 := by omega
  have e10 : m11 ≠ m10 := by omega
  cases s <;> cases i <;> simp [e1, e2, e3, e4, e5, e6, e7, e8, e9, e10]
 ·rcases e with e | e | e
  ·have := hown k e; omega
  ·simp only [aw, cond] at e; omega
  ·simp only [aw, cond] at e; omega
theorem mk_map (w : World) : (Instr.makeMap 68 none).run Try.prog w = .ok (.map (some w.heap.size)) (w.alloc (.map #[] 0)) := by
 simp [Instr.makeMap, Result.andThen]
set_option maxRecDepth 100000 in
set_option maxHeartbeats 1000000 in
theorem fresh_any (w : World) : Calls Try.prog 26 #[] w fun e w' => ∃ wb, e = .returned (.pointer (some ⟨wb, 0, none⟩)) ∧ Wx w w' wb Wd.fresh := by
 go_enter Try.func26, Try.ntmps26
 go_wp2_with fail
 obtain ⟨wb, hwb⟩ : ∃ wb, w.heap.size = wb := ⟨_, rfl⟩
 obtain ⟨wz, hwz⟩ : ∃ wz, w.alloc (.cells #[.pointer none, .slice none 0 0, .int .u64 0, .pointer none, .slice none 0 0, .int .u64 0, .map none, .map none, .map none, .map none] 71) = wz := ⟨_, rfl⟩
 have F0 : Hid (Fr w wz wb 0) := Lib.hid ⟨by rw [← hwz, ← hwb]; exact heap_alloc_new _ _, by rw [← hwz]; exact (Keeps.refl _ _).alloc _, by omega⟩
 rw [hwb, hwz]
 clear hwb hwz
 go_loopg [7] 2 (fun n v7 wm => ∃ k : Nat, k ≤ 2 ∧ n = 2 - k ∧ v7 = .int .i64 (k : Int) ∧ Fr w wm wb k)
 case atStart => exact ⟨0, by omega, rfl, rfl, F0.out⟩
 case round =>
  obtain ⟨k, hk, rfl, rfl, hF⟩ := hrel
  obtain ⟨wo, rfl⟩ : ∃ wo : World, wo = wr := ⟨_, rfl⟩
  rcases (by omega : k = 0 ∨ k = 1 ∨ k = 2) with rfl | rfl | rfl
  ·obtain ⟨h0, h1, h2⟩ := hF
   go_upto_block 1 with fail
   go_cut [] (fun wc => Fr w wc wb 1)
   case rest =>
    have G := Lib.hid hcut
    clear hcut h0 h1 h2 hk
    go_wp2_with fail
    go_roundg (2 - 1)
    case measure => omega
    case rel => exact ⟨1, by omega, rfl, by go_num, G.out⟩
   have C := Lib.hid (lnew_yes 1 (by omega) wo)
   have G := Lib.hid (And.intro h0 (And.intro h1 h2))
   clear h0 h1 h2 hk
   go_wp2_with fail
   refine C.out.mono ?_
   rintro e w1 ⟨rfl, m1, o1, z1⟩
   have b1 := (o1.block _ (lt_of_block G.out.1) (fun f => f)).trans G.out.1
   obtain ⟨⟨y0, z0⟩, ⟨y1, z1'⟩, ⟨y2, z2⟩, ⟨y3, z3⟩, ⟨y4, z4⟩, ⟨y5, z5⟩, ⟨y6, z6⟩, ⟨y7, z7⟩, ⟨y8, z8⟩, ⟨y9, z9⟩⟩ := blk10 b1
   have G1 := Lib.hid (And.intro m1 (And.intro o1 (And.intro z1 b1)))
   clear m1 o1 z1 b1
   go_upto_region 7 with fail
   obtain ⟨l0, hl0⟩ : ∃ l, wo.heap.size = l := ⟨_, rfl⟩
   rw [hl0] at G1 ⊢
   obtain ⟨w2, hw2⟩ : ∃ w2, ((w1.setCell ⟨wb, 0, none⟩ (.pointer (some ⟨l0, 0, none⟩))).setCell ⟨wb, 1, none⟩ (.slice none 0 0)).setCell ⟨wb, 2, none⟩ (.int .u64 1) = w2 := ⟨_, rfl⟩
   have k2 : Keeps (fun b => b = wb) w1 w2 := by rw [← hw2]; exact setAt (setAt (setAt (Keeps.refl _ _) 0 _) 1 _) 2 _
   have b2 : w2.heap[wb]? = some (.cells #[.pointer (some ⟨l0, 0, none⟩), .slice none 0 0, .int .u64 1, .pointer none, .slice none 0 0, .int .u64 0, .map none, .map none, .map none, .map none] 71 (0, 0)) := by
    have h := heap_setCell_same _ wb 2 _ _ (.int .u64 1) (heap_setCell_same _ wb 1 _ _ (.slice none 0 0) (heap_setCell_same _ wb 0 _ _ (.pointer (some ⟨l0, 0, none⟩)) G1.out.2.2.2))
    rw [hw2] at h
    simp only [List.setIfInBounds_toArray, List.set_cons_zero, List.set_cons_succ] at h
    exact h
   rw [hw2]
   clear hw2 y0 y1 y2 y3 y4 y5 y6 y7 y8 y9 z0 z1' z2 z3 z4 z5 z6 z7 z8 z9
   obtain ⟨⟨y0, z0⟩, ⟨y1, z1'⟩, ⟨y2, z2⟩, ⟨y3, z3⟩, ⟨y4, z4⟩, ⟨y5, z5⟩, ⟨y6, z6⟩, ⟨y7, z7⟩, ⟨y8, z8⟩, ⟨y9, z9⟩⟩ := blk10 b2
   have hwlt : wb < w2.heap.size := lt_of_block b2
   have hne : wb ≠ w2.heap.size ∧ wb ≠ w2.heap.size + 1 := by omega
   have G2 := Lib.hid (And.intro k2 (And.intro b2 (And.intro hwlt hl0)))
   obtain ⟨n1, n2⟩ := hne
   clear k2 b2 hl0 hwlt
   have hmk := mk_map
   have hcell := cell_alloc_ne
   have hfrz := frozen_alloc_ne
   go_region
   all_goals
    go_wp2_with fail
    go_meet
   all_goals
    first
    | exact fr1_of G.out.2.1 G.out.2.2 (lt_of_block G.out.1) G2.out.2.2.2 G1.out.1 G1.out.2.1 (by have h1 := G1.out.2.2.1; have h2 := G2.out.2.2.2; omega) G2.out.1 (laid_a (o := 6) (q := 8) G2.out.2.1 (by with_reducible rfl) (.inl ⟨rfl, rfl⟩))
    | exact fr1_of G.out.2.1 G.out.2.2 (lt_of_block G.out.1) G2.out.2.2.2 G1.out.1 G1.out.2.1 (by have h1 := G1.out.2.2.1; have h2 := G2.out.2.2.2; omega) G2.out.1 (laid_a (o := 6) (q := 8) G2.out.2.1 (by with_reducible rfl) (.inr ⟨rfl, rfl⟩))
    | exact fr1_of G.out.2.1 G.out.2.2 (lt_of_block G.out.1) G2.out.2.2.2 G1.out.1 G1.out.2.1 (by have h1 := G1.out.2.2.1; have h2 := G2.out.2.2.2; omega) G2.out.1 (laid_b (o := 6) (q := 8) G2.out.2.1 (by with_reducible rfl))
  ·obtain ⟨l0, m00, m10, h0, h1, h2, hrest⟩ := hF
   go_upto_block 1 with fail
   go_cut [] (fun wc => Fr w wc wb 2)
   case rest =>
    have G := Lib.hid hcut
    clear hcut h0 h1 h2 hrest hk
    go_wp2_with fail
    go_roundg (2 - 2)
    case measure => omega
    case rel => exact ⟨2, by omega, rfl, by go_num, G.out⟩
   have C := Lib.hid (lnew_yes 1 (by omega) wo)
   have G := Lib.hid (And.intro h0 (And.intro h1 (And.intro h2 hrest)))
   clear h0 h1 h2 hrest hk
   go_wp2_with fail
   refine C.out.mono ?_
   rintro e w1 ⟨rfl, m1, o1, z1⟩
   have b1 := (o1.block _ (lt_of_block G.out.1) (fun f => f)).trans G.out.1
   obtain ⟨⟨y0, z0⟩, ⟨y1, z1'⟩, ⟨y2, z2⟩, ⟨y3, z3⟩, ⟨y4, z4⟩, ⟨y5, z5⟩, ⟨y6, z6⟩, ⟨y7, z7⟩, ⟨y8, z8⟩, ⟨y9, z9⟩⟩ := blk10 b1
   have G1 := Lib.hid (And.intro m1 (And.intro o1 (And.intro z1 b1)))
   clear m1 o1 z1 b1
   go_upto_region 7 with fail
   obtain ⟨l1, hl0⟩ : ∃ l, wo.heap.size = l := ⟨_, rfl⟩
   rw [hl0] at G1 ⊢
   obtain ⟨w2, hw2⟩ : ∃ w2, ((w1.setCell ⟨wb, 3, none⟩ (.pointer (some ⟨l1, 0, none⟩))).setCell ⟨wb, 4, none⟩ (.slice none 0 0)).setCell ⟨wb, 5, none⟩ (.int .u64 1) = w2 := ⟨_, rfl⟩
   have k2 : Keeps (fun b => b = wb) w1 w2 := by rw [← hw2]; exact setAt (setAt (setAt (Keeps.refl _ _) 3 _) 4 _) 5 _
   have b2 : w2.heap[wb]? = some (.cells #[.pointer (some ⟨l0, 0, none⟩), .slice none 0 0, .int .u64 1, .pointer (some ⟨l1, 0, none⟩), .slice none 0 0, .int .u64 1, .map (some m00), .map none, .map (some m10), .map none] 71 (0, 0)) := by
    have h := heap_setCell_same _ wb 5 _ _ (.int .u64 1) (heap_setCell_same _ wb 4 _ _ (.slice none 0 0) (heap_setCell_same _ wb 3 _ _ (.pointer (some ⟨l1, 0, none⟩)) G1.out.2.2.2))
    rw [hw2] at h
    simp only [List.setIfInBounds_toArray, List.set_cons_zero, List.set_cons_succ] at h
    exact h
   rw [hw2]
   clear hw2 y0 y1 y2 y3 y4 y5 y6 y7 y8 y9 z0 z1' z2 z3 z4 z5 z6 z7 z8 z9
   obtain ⟨⟨y0, z0⟩, ⟨y1, z1'⟩, ⟨y2, z2⟩, ⟨y3, z3⟩, ⟨y4, z4⟩, ⟨y5, z5⟩, ⟨y6, z6⟩, ⟨y7, z7⟩, ⟨y8, z8⟩, ⟨y9, z9⟩⟩ := blk10 b2
   have hwlt : wb < w2.heap.size := lt_of_block b2
   have hne : wb ≠ w2.heap.size ∧ wb ≠ w2.heap.size + 1 := by omega
   have G2 := Lib.hid (And.intro k2 (And.intro b2 (And.intro hwlt hl0)))
   obtain ⟨n1, n2⟩ := hne
   clear k2 b2 hl0 hwlt
   have hmk := mk_map
   have hcell := cell_alloc_ne
   have hfrz := frozen_alloc_ne
   go_region
   all_goals
    go_wp2_with fail
    go_meet
   all_goals
    obtain ⟨a1, a2, a3, a4, a5, a6, a7⟩ := G.out.2.2.2
    have zz : l1 + 2 ≤ w1.heap.size := by have h1 := G1.out.2.2.1; have h2 := G2.out.2.2.2; omega
    first
    | exact fr2_of G.out.2.1 G.out.2.2.1 (lt_of_block G.out.1) a1 a2 a3 a4 a5 a6 a7 G2.out.2.2.2 G1.out.1 G1.out.2.1 zz G2.out.1 (laid_a (o := 7) (q := 9) G2.out.2.1 (by with_reducible rfl) (.inl ⟨rfl, rfl⟩))
    | exact fr2_of G.out.2.1 G.out.2.2.1 (lt_of_block G.out.1) a1 a2 a3 a4 a5 a6 a7 G2.out.2.2.2 G1.out.1 G1.out.2.1 zz G2.out.1 (laid_a (o := 7) (q := 9) G2.out.2.1 (by with_reducible rfl) (.inr ⟨rfl, rfl⟩))
    | exact fr2_of G.out.2.1 G.out.2.2.1 (lt_of_block G.out.1) a1 a2 a3 a4 a5 a6 a7 G2.out.2.2.2 G1.out.1 G1.out.2.1 zz G2.out.1 (laid_b (o := 7) (q := 9) G2.out.2.1 (by with_reducible rfl))
  ·have G := Lib.hid hF
   clear hF
   go_wp2_with fail
   go_ret
   exact ⟨wb, rfl, fr_done G.out⟩
end Go.Proofs.Ytllnlimbfoingaa
