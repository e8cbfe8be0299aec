/- DERIVED. Chapter 20: Parse, of both. · DERIVED. Chapter 20: how a packet of the document reads. · DERIVED. Chapter 20: how a slice of rows among the arguments reads. · DERIVED. Chapter 20: how lists of steps among the arguments read; LinkOrder, from how its argument reads. · The statement LinkOrder, second form: for every input of bulk at most 1048576 the law returns true, and the arguments read as they did. -/
import Derived.Test.YtllnlimbfoingaaZLinkOrder11
import Derived.Test.YtllnlimbfoingaaZLinkOrder08
import Derived.Deep.Slices
import Derived.Deep.Fields
import Derived.Test.YtllnlimbfoingaaRows
import Derived.ProofKit
import Derived.OpenShut
import Derived.JoinedCond
import Derived.ChangeOld
namespace Go.Proofs.Ytllnlimbfoingaa
open Go.RowKit

theorem five (w : World) (b : Nat) (x0 x1 x2 x3 x4 : Value) : Keeps (fun k => k = b) w (((((w.setCell ⟨b, 0, none⟩ x0).setCell ⟨b, 1, none⟩ x1).setCell ⟨b, 2, none⟩ x2).setCell ⟨b, 3, none⟩ x3).setCell ⟨b, 4, none⟩ x4) := setAt (setAt (setAt (setAt (setAt (Keeps.refl _ _) 0 _) 1 _) 2 _) 3 _) 4 _
/-- what a Parse hands back -/
def ParPost (w : World) (l : List UInt8) (e : Ending) (w' : World) : Prop := ∃ q : Pv, e = .returned (.tuple #[.agg q.cells.toArray, .int .i64 ((parP l).2 : Int)]) ∧ q.plain = (parP l).1 ∧ Sees w' q.v q.d ∧ Old w w'
set_option maxRecDepth 100000 in
set_option maxHeartbeats 1000000 in
theorem rparse_any (v : Value) (l : List UInt8) (w : World) (hs : Sees w v l) (hl : l.length ≤ 100000000) : Calls Try.prog 31 #[v] w (ParPost w l) := by
 have hq := parQ_eq l
 obtain ⟨a, ea, la, hA⟩ : ∃ a e r, readNum l 18446744073709551615 = (a, e, r) := ⟨_, _, _, rfl⟩
 obtain ⟨b, eb, lb, hB⟩ : ∃ a e r, readNum la 18446744073709551615 = (a, e, r) := ⟨_, _, _, rfl⟩
 obtain ⟨c, ec, lc, hC⟩ : ∃ a e r, readNum lb 18446744073709551615 = (a, e, r) := ⟨_, _, _, rfl⟩
 obtain ⟨d, ed, ld, hD⟩ : ∃ a e r, readNum lc 18446744073709551615 = (a, e, r) := ⟨_, _, _, rfl⟩
 obtain ⟨x, ex, lx, hX⟩ : ∃ a e r, readBytes ld 9223372036854775807 = (a, e, r) := ⟨_, _, _, rfl⟩
 simp only [parQ, hA, hB, hC, hD, hX] at hq
 obtain ⟨w1, hw1⟩ : ∃ w1, w.alloc (.cells #[.int .u64 0, .int .u64 0, .int .u64 0, .int .u64 0, .slice none 0 0] 34) = w1 := ⟨_, rfl⟩
 have o1 : Old w w1 := by rw [← hw1]; exact (Keeps.refl _ _).alloc _
 have b1 : w1.heap[w.heap.size]? = some (.cells #[.int .u64 0, .int .u64 0, .int .u64 0, .int .u64 0, .slice none 0 0] 34 (0, 0)) := by rw [← hw1]; exact heap_alloc_new _ _
 have W1 := Lib.hid (And.intro o1 (And.intro b1 (hs.old o1)))
 have H := Lib.hid (And.intro hq (And.intro hA (And.intro hB (And.intro hC (And.intro hD (And.intro hX hl))))))
 clear hq hA hB hC hD hX hl hs o1 b1
 go_enter Try.func31, Try.ntmps31
 go_wp2_with fail
 refine (own20 v l w1 W1.out.2.2 (by have := H.out.2.2.2.2.2.2; omega)).mono ?_
 rintro e w2 ⟨p2, n2, c2, rfl, ho, hk⟩
 obtain ⟨wq, hwq⟩ : ∃ wq, w2.alloc (.cells #[.slice p2 n2 c2] 109) = wq := ⟨_, rfl⟩
 obtain ⟨qb, hqb⟩ : ∃ qb, w2.heap.size = qb := ⟨_, rfl⟩
 have hz1 : w.heap.size < w1.heap.size := lt_of_block W1.out.2.1
 have q1 : Qd wq qb (.slice p2 n2 c2) l := by
  rw [← hwq, ← hqb]
  refine ⟨heap_alloc_new _ _, ho.sees.alloc _, by have := H.out.2.2.2.2.2.2; omega, fun k hk' => ?_⟩
  have := (ho.block k hk').2
  simp
  omega
 have kq : Old w1 wq := by rw [← hwq]; exact hk.alloc _
 have hb : w.heap.size ≠ qb := by have := hk.size; omega
 have W2 := Lib.hid (And.intro (W1.out.1.trans kq) (And.intro ((kq.block _ hz1 (fun f => f)).trans W1.out.2.1) (And.intro q1 (And.intro hb (by have := hk.size; have := W1.out.1.size; omega : w.heap.size ≤ qb)))))
 clear ho hk q1 kq W1 hz1 hb
 go_wp2_with fail
 clear hwq hqb
 refine (qnum_any qb _ l 18446744073709551615 wq W2.out.2.2.1 (by decide)).mono ?_
 rintro e w3 ⟨he, v3, hq, -, hk⟩
 rw [H.out.2.1] at he hq
 subst he
 have W3 := Lib.hid (And.intro hq hk)
 clear hq hk
 go_wp2_with fail
 refine (qnum_any qb _ la 18446744073709551615 w3 W3.out.1 (by decide)).mono ?_
 rintro e w4 ⟨he, v4, hq, -, hk⟩
 rw [H.out.2.2.1] at he hq
 subst he
 have W4 := Lib.hid (And.intro hq (W3.out.2.trans hk))
 clear hq hk W3
 go_wp2_with fail
 refine (qnum_any qb _ lb 18446744073709551615 w4 W4.out.1 (by decide)).mono ?_
 rintro e w5 ⟨he, v5, hq, -, hk⟩
 rw [H.out.2.2.2.1] at he hq
 subst he
 have W5 := Lib.hid (And.intro hq (W4.out.2.trans hk))
 clear hq hk W4
 go_wp2_with fail
 refine (qnum_any qb _ lc 18446744073709551615 w5 W5.out.1 (by decide)).mono ?_
 rintro e w6 ⟨he, v6, hq, -, hk⟩
 rw [H.out.2.2.2.2.1] at he hq
 subst he
 have W6 := Lib.hid (And.intro hq (W5.out.2.trans hk))
 clear hq hk W5
 go_wp2_with fail
 refine (qbytes_any qb _ ld 9223372036854775807 w6 W6.out.1 (by decide)).mono ?_
 rintro e w7 ⟨p7, n7, c7, he, ho, v7, hq, -, hk⟩
 rw [H.out.2.2.2.2.2.1] at he ho hq
 subst he
 obtain ⟨hq1, hq2, -, -⟩ := hq
 obtain ⟨p8, c8, rfl, -, -⟩ := hq2.len
 have r0 : w7.cell? ⟨qb, 0, none⟩ = some (.slice p8 lx.length c8) := by simp [World.cell?, hq1]
 have bz := (((W6.out.2.trans hk).block w.heap.size (lt_of_block W2.out.2.1) W2.out.2.2.2.1).trans W2.out.2.1)
 obtain ⟨⟨z0, z1, z2, z3, z4⟩, ⟨y0, y1, y2, y3, y4⟩⟩ := blk5 bz
 have W7 := Lib.hid (And.intro (W2.out.1.then (W6.out.2.trans hk) (fun i hi e => by have := W2.out.2.2.2.2; omega)) ho.sees)
 have HQ := Lib.hid (And.intro H.out.1 (And.intro W7.out.1.size (fun k hk e => by have := (ho.block k hk).1; have := W6.out.2.size; have := lt_of_block W2.out.2.1; omega : ∀ k, (Value.slice p7 n7 c7).ownBlock = some k → k ≠ w.heap.size)))
 clear hq1 hq2 bz ho hk W6 W2 H
 by_cases h0 : ea = 0
 rotate_left
 ·have d0 : ((ea : Int) != 0) = true := by simp; omega
  go_wp2_with fail
  refine bodyPost_ret (v := .tuple #[.agg #[.int .u64 0, .int .u64 0, .int .u64 0, .int .u64 0, .slice none 0 0], .int .i64 5]) (by simp [results, Try.results31, go_sem, z0, z1, z2, z3, z4]) rfl ?_
  have e := HQ.out.1
  rw [if_pos (by simp [h0])] at e
  exact ⟨⟨0, 0, 0, 0, .slice none 0 0, []⟩, by rw [← e]; rfl, by rw [← e]; rfl, Sees.nil _, W7.out.1.then (five _ _ _ _ _ _ _) (fun i hi e => by omega)⟩
 subst h0
 by_cases h1 : eb = 0
 rotate_left
 ·have d1 : ((eb : Int) != 0) = true := by simp; omega
  go_wp2_with fail
  refine bodyPost_ret (v := .tuple #[.agg #[.int .u64 0, .int .u64 0, .int .u64 0, .int .u64 0, .slice none 0 0], .int .i64 5]) (by simp [results, Try.results31, go_sem, z0, z1, z2, z3, z4]) rfl ?_
  have e := HQ.out.1
  rw [if_pos (by simp [h1])] at e
  exact ⟨⟨0, 0, 0, 0, .slice none 0 0, []⟩, by rw [← e]; rfl, by rw [← e]; rfl, Sees.nil _, W7.out.1.then (five _ _ _ _ _ _ _) (fun i hi e => by omega)⟩
 subst h1
 by_cases h2 : ec = 0
 rotate_left
 ·have d2 : ((ec : Int) != 0) = true := by simp; omega
  go_wp2_with fail
  refine bodyPost_ret (v := .tuple #[.agg #[.int .u64 0, .int .u64 0, .int .u64 0, .int .u64 0, .slice none 0 0], .int .i64 5]) (by simp [results, Try.results31, go_sem, z0, z1, z2, z3, z4]) rfl ?_
  have e := HQ.out.1
  rw [if_pos (by simp [h2])] at e
  exact ⟨⟨0, 0, 0, 0, .slice none 0 0, []⟩, by rw [← e]; rfl, by rw [← e]; rfl, Sees.nil _, W7.out.1.then (five _ _ _ _ _ _ _) (fun i hi e => by omega)⟩
 subst h2
 by_cases h3 : ed = 0
 rotate_left
 ·have d3 : ((ed : Int) != 0) = true := by simp; omega
  go_wp2_with fail
  refine bodyPost_ret (v := .tuple #[.agg #[.int .u64 0, .int .u64 0, .int .u64 0, .int .u64 0, .slice none 0 0], .int .i64 5]) (by simp [results, Try.results31, go_sem, z0, z1, z2, z3, z4]) rfl ?_
  have e := HQ.out.1
  rw [if_pos (by simp [h3])] at e
  exact ⟨⟨0, 0, 0, 0, .slice none 0 0, []⟩, by rw [← e]; rfl, by rw [← e]; rfl, Sees.nil _, W7.out.1.then (five _ _ _ _ _ _ _) (fun i hi e => by omega)⟩
 subst h3
 by_cases h4 : ex = 0
 rotate_left
 ·have d4 : ((ex : Int) != 0) = true := by simp; omega
  go_wp2_with fail
  refine bodyPost_ret (v := .tuple #[.agg #[.int .u64 0, .int .u64 0, .int .u64 0, .int .u64 0, .slice none 0 0], .int .i64 5]) (by simp [results, Try.results31, go_sem, z0, z1, z2, z3, z4]) rfl ?_
  have e := HQ.out.1
  rw [if_pos (by simp [h4])] at e
  exact ⟨⟨0, 0, 0, 0, .slice none 0 0, []⟩, by rw [← e]; rfl, by rw [← e]; rfl, Sees.nil _, W7.out.1.then (five _ _ _ _ _ _ _) (fun i hi e => by omega)⟩
 subst h4
 by_cases h5 : lx = []
 rotate_left
 ·have hp : 0 < lx.length := List.length_pos_iff.2 h5
  go_wp2_with fail
  refine bodyPost_ret (v := .tuple #[.agg #[.int .u64 0, .int .u64 0, .int .u64 0, .int .u64 0, .slice none 0 0], .int .i64 5]) (by simp [results, Try.results31, go_sem, z0, z1, z2, z3, z4]) rfl ?_
  have e := HQ.out.1
  rw [if_pos (by simp [h5])] at e
  exact ⟨⟨0, 0, 0, 0, .slice none 0 0, []⟩, by rw [← e]; rfl, by rw [← e]; rfl, Sees.nil _, W7.out.1.then (five _ _ _ _ _ _ _) (fun i hi e => by omega)⟩
 subst h5
 go_wp2_with fail
 refine bodyPost_ret (v := .tuple #[.agg #[.int .u64 (a : Int), .int .u64 (b : Int), .int .u64 (c : Int), .int .u64 (d : Int), .slice p7 n7 c7], .int .i64 0]) (by simp [results, Try.results31, go_sem, z0, z1, z2, z3, z4]) rfl ?_
 have e := HQ.out.1
 rw [if_neg (by simp)] at e
 exact ⟨⟨a, b, c, d, .slice p7 n7 c7, x⟩, by rw [← e]; rfl, by rw [← e]; rfl, (W7.out.2.keeps (five _ _ _ _ _ _ _) (fun k hk e => (HQ.out.2.2 k hk) e)), W7.out.1.then (five _ _ _ _ _ _ _) (fun i hi e => by omega)⟩
theorem Rd.kept {w w' : World} {B rb bb : Nat} {l : List UInt8} {S : Nat → Prop} (h : Rd w B rb bb l) (hk : Keeps S w w') (hrb : rb < B) (hS : ∀ k, k < B → ¬ S k) : Rd w' B rb bb l := by
 obtain ⟨h0, v, h1, h2, h3, h4, h5⟩ := h
 exact ⟨Nat.le_trans h0 hk.size, v, (hk.block rb (by omega) (hS rb hrb)).trans h1, h2.keeps hk (fun k hk' => hS k (h4 k hk').2), h3, h4, h5⟩
theorem nums_none {k m : Nat} {l : List UInt8} (h : nums k l = none) (hk : k ≤ m) : nums m l = none := by
 induction m with
 | zero =>
  obtain rfl : k = 0 := by omega
  exact h
 | succ m ih =>
  by_cases e : k = m + 1
  ·subst e; exact h
  ·simp only [nums, ih (by omega)]
def sw (k n x : Nat) (j : Nat) : Nat := if j = k then n else x
theorem nums_next {k : Nat} {l r r' : List UInt8} {x0 x1 x2 x3 n : Nat} (hk : k < 4) (h : nums k l = some ([x0, x1, x2, x3].take k, r)) (hr : readNum r 18446744073709551615 = (n, 0, r')) :
  nums (k + 1) l = some ([sw k n x0 0, sw k n x1 1, sw k n x2 2, sw k n x3 3].take (k + 1), r') := by
 simp only [nums, h, hr, if_true]
 rcases k with _ | _ | _ | _ | k
 ·rfl
 ·rfl
 ·rfl
 ·rfl
 ·omega
theorem nums_bad {k : Nat} {l r : List UInt8} {ns : List Nat} {n e : Nat} {r' : List UInt8} (h : nums k l = some (ns, r)) (hk : k < 4) (hr : readNum r 18446744073709551615 = (n, e, r')) (he : e ≠ 0) : parP l = (pk0, 5) := by
 have : nums (k + 1) l = none := by simp only [nums, h, hr, if_neg he]
 unfold parP
 rw [nums_none this (by omega)]
theorem row_set {w : World} {g k n x0 x1 x2 x3 : Nat} {t : TypeId} (hk : k < 4) (h : w.heap[g]? = some (.cells #[.int .u64 (x0 : Int), .int .u64 (x1 : Int), .int .u64 (x2 : Int), .int .u64 (x3 : Int)] t (0, 0))) :
  (w.setCell ⟨g, k, none⟩ (.int .u64 (n : Int))).heap[g]? = some (.cells #[.int .u64 (sw k n x0 0 : Nat), .int .u64 (sw k n x1 1 : Nat), .int .u64 (sw k n x2 2 : Nat), .int .u64 (sw k n x3 3 : Nat)] t (0, 0)) := by
 have := heap_setCell_same w g k _ _ (.int .u64 (n : Int)) h
 rw [this]
 rcases k with _ | _ | _ | _ | k
 ·rfl
 ·rfl
 ·rfl
 ·rfl
 ·omega
theorem row_at {w : World} {g k x0 x1 x2 x3 : Nat} {t : TypeId} (hk : k < 4) (h : w.heap[g]? = some (.cells #[.int .u64 (x0 : Int), .int .u64 (x1 : Int), .int .u64 (x2 : Int), .int .u64 (x3 : Int)] t (0, 0))) : (∃ u, w.cell? ⟨g, k, none⟩ = some u) ∧ w.frozen? ⟨g, k, none⟩ = false := by
 refine ⟨?_, by simp [World.frozen?, h]⟩
 rcases k with _ | _ | _ | _ | k
 ·exact ⟨_, by simp [World.cell?, h]; rfl⟩
 ·exact ⟨_, by simp [World.cell?, h]; rfl⟩
 ·exact ⟨_, by simp [World.cell?, h]; rfl⟩
 ·exact ⟨_, by simp [World.cell?, h]; rfl⟩
 ·omega
set_option maxRecDepth 100000 in
set_option maxHeartbeats 1000000 in
theorem parse_any (v : Value) (l : List UInt8) (w : World) (hs : Sees w v l) (hl : l.length ≤ 100000000) : Calls Try.prog 30 #[v] w (ParPost w l) := by
 obtain ⟨w1, hw1⟩ : ∃ w1, w.alloc (.cells #[.int .u64 0, .int .u64 0, .int .u64 0, .int .u64 0, .slice none 0 0] 37) = w1 := ⟨_, rfl⟩
 have o1 : Old w w1 := by rw [← hw1]; exact (Keeps.refl _ _).alloc _
 have b1 : w1.heap[w.heap.size]? = some (.cells #[.int .u64 0, .int .u64 0, .int .u64 0, .int .u64 0, .slice none 0 0] 37 (0, 0)) := by rw [← hw1]; exact heap_alloc_new _ _
 have W1 := Lib.hid (And.intro o1 (And.intro b1 (hs.old o1)))
 have H := Lib.hid hl
 clear hl hs o1 b1
 go_enter Try.func30, Try.ntmps30
 go_wp2_with fail
 refine (new_any v l w1 W1.out.2.2 (by have := H.out; omega)).mono ?_
 rintro e w2 ⟨rb, bb, rfl, hR, hrb, hbb, hk⟩
 obtain ⟨w3, hw3⟩ : ∃ w3, w2.alloc (.cells #[.int .u64 0, .int .u64 0, .int .u64 0, .int .u64 0] 102) = w3 := ⟨_, rfl⟩
 obtain ⟨ab, hab⟩ : ∃ ab, w2.heap.size = ab := ⟨_, rfl⟩
 have o3 : Old w2 w3 := by rw [← hw3]; exact (Keeps.refl _ _).alloc _
 have b3 : w3.heap[ab]? = some (.cells #[.int .u64 (0 : Nat), .int .u64 (0 : Nat), .int .u64 (0 : Nat), .int .u64 (0 : Nat)] 102 (0, 0)) := by rw [← hw3, ← hab]; exact heap_alloc_new _ _
 have hrb2 : rb < ab := by
  obtain ⟨_, _, h1, _⟩ := hR
  have := lt_of_block h1
  omega
 rw [hab] at hR
 have hR3 : Rd w3 ab rb bb l := hR.kept o3 hrb2 (fun _ _ f => f)
 have hz1 : w.heap.size < w1.heap.size := lt_of_block W1.out.2.1
 have W3 := Lib.hid (And.intro (W1.out.1.trans (hk.trans o3)) (And.intro (((hk.trans o3).block _ hz1 (fun f => f)).trans W1.out.2.1) (And.intro hR3 (And.intro b3 (And.intro hrb2 (And.intro hrb hz1))))))
 clear hR hR3 b3 o3 hk hrb hbb hz1 W1
 go_wp2_with fail
 clear hw3 hab
 go_loopg [13] 4 (fun n v13 wm => ∃ k r x0 x1 x2 x3, k ≤ 4 ∧ n = 4 - k ∧ v13 = .int .i64 (k : Nat) ∧ nums k l = some ([x0, x1, x2, x3].take k, r) ∧
  wm.heap[ab]? = some (.cells #[.int .u64 (x0 : Nat), .int .u64 (x1 : Nat), .int .u64 (x2 : Nat), .int .u64 (x3 : Nat)] 102 (0, 0)) ∧ Rd wm ab rb bb r ∧ Keeps (fun i => i = rb ∨ i = ab) w3 wm)
 case atStart => exact ⟨0, l, 0, 0, 0, 0, by omega, rfl, rfl, rfl, W3.out.2.2.2.1, W3.out.2.2.1, Keeps.refl _ _⟩
 case round =>
  obtain ⟨k, r, x0, x1, x2, x3, hk4, rfl, rfl, hn, hb, hR, hkr⟩ := hrel
  by_cases hlt : k < 4
  ·have b1 : (k : Int) < 4 := by omega
   obtain ⟨n, en, r', hr⟩ : ∃ a e r', readNum r 18446744073709551615 = (a, e, r') := ⟨_, _, _, rfl⟩
   have HH := Lib.hid (And.intro hn (And.intro hb (And.intro hR (And.intro hkr hr))))
   clear hn hb hR hkr hr
   go_wp2_with fail
   refine (rnum_any ab rb bb r 18446744073709551615 wr HH.out.2.2.1 (by decide)).mono ?_
   rintro e w4 ⟨he, hR, hk⟩
   rw [HH.out.2.2.2.2] at he hR
   subst he
   have hb4 := (hk.block ab (lt_of_block HH.out.2.1) (by have := W3.out.2.2.2.2.1; omega)).trans HH.out.2.1
   have k4 := HH.out.2.2.2.1.trans (hk.weaken (T := fun i => i = rb ∨ i = ab) (fun _ _ h => .inl h))
   have bz := (k4.block w.heap.size (lt_of_block W3.out.2.1) (by have := W3.out.2.2.2.2; omega)).trans W3.out.2.1
   by_cases h0 : en = 0
   ·subst h0
    obtain ⟨⟨u, hu⟩, hf⟩ := row_at hlt hb4
    have W4 := Lib.hid (And.intro hR (And.intro hb4 k4))
    clear hR hb4 k4 hk bz
    go_wp2_with fail
    go_roundg (4 - (k + 1))
    case measure => omega
    case rel =>
     refine ⟨k + 1, r', _, _, _, _, by omega, rfl, by go_num, nums_next hlt HH.out.1 HH.out.2.2.2.2, row_set hlt W4.out.2.1, ?_, ?_⟩
     ·exact W4.out.1.kept ((Keeps.refl (fun i => i = ab) _).setCell (fun _ => rfl) _) W3.out.2.2.2.2.1 (fun k hk e => by omega)
     ·exact W4.out.2.2.setCell (fun _ => .inr rfl) _
   ·have d1 : ((en : Int) != 0) = true := by simp; omega
    obtain ⟨⟨z0, z1, z2, z3, z4⟩, ⟨y0, y1, y2, y3, y4⟩⟩ := blk5 bz
    have W4 := Lib.hid k4
    clear hR hb4 k4 hk bz
    go_wp2_with fail
    refine bodyPost_ret (v := .tuple #[.agg #[.int .u64 0, .int .u64 0, .int .u64 0, .int .u64 0, .slice none 0 0], .int .i64 5]) (by simp [results, Try.results30, go_sem, z0, z1, z2, z3, z4]) rfl ?_
    have e := nums_bad HH.out.1 hlt HH.out.2.2.2.2 h0
    refine ⟨⟨0, 0, 0, 0, .slice none 0 0, []⟩, by rw [e]; rfl, by rw [e]; rfl, Sees.nil _, ?_⟩
    have ho := W3.out.1.then W4.out (fun i hi e => by have := W3.out.2.2.2.2; omega)
    exact ho.then (five _ _ _ _ _ _ _) (fun i hi e => by omega)
  ·obtain rfl : k = 4 := by omega
   have hp : parP l = parR x0 x1 x2 x3 r := by unfold parP; rw [hn]; rfl
   obtain ⟨x, ex, r2, hX⟩ : ∃ a e r2, readBytes r 9223372036854775807 = (a, e, r2) := ⟨_, _, _, rfl⟩
   have HP := Lib.hid hp
   have HH := Lib.hid (And.intro hb (And.intro hR hkr))
   clear hn hb hR hkr hp
   go_wp2_with fail
   refine (rbytes_any ab rb bb r 9223372036854775807 wr HH.out.2.1 (by decide)).mono ?_
   rintro e w4 ⟨q4, n4, e4, he, ho, hR, hk⟩
   rw [hX] at he ho hR
   subst he
   have hb4 := (hk.block ab (lt_of_block HH.out.1) (by have := W3.out.2.2.2.2.1; omega)).trans HH.out.1
   have k4 := HH.out.2.2.trans (hk.weaken (T := fun i => i = rb ∨ i = ab) (fun _ _ h => .inl h))
   have bz := (k4.block w.heap.size (lt_of_block W3.out.2.1) (by have := W3.out.2.2.2.2; omega)).trans W3.out.2.1
   obtain ⟨⟨z0, z1, z2, z3, z4⟩, ⟨y0, y1, y2, y3, y4⟩⟩ := blk5 bz
   have a0 : w4.cell? ⟨ab, 0, none⟩ = some (.int .u64 (x0 : Int)) := by simp [World.cell?, hb4]
   have a1 : w4.cell? ⟨ab, 1, none⟩ = some (.int .u64 (x1 : Int)) := by simp [World.cell?, hb4]
   have a2 : w4.cell? ⟨ab, 2, none⟩ = some (.int .u64 (x2 : Int)) := by simp [World.cell?, hb4]
   have a3 : w4.cell? ⟨ab, 3, none⟩ = some (.int .u64 (x3 : Int)) := by simp [World.cell?, hb4]
   have WO := Lib.hid (And.intro hR (And.intro (W3.out.1.then k4 (fun i hi e => by have := W3.out.2.2.2.2; omega)) (And.intro ho.sees (fun k hk' e => by have := (ho.block k hk').1; have := HH.out.2.2.size; have := lt_of_block W3.out.2.1; omega : ∀ k, (Value.slice q4 n4 e4).ownBlock = some k → k ≠ w.heap.size))))
   clear hR hb4 k4 hk bz ho HH
   by_cases h0 : ex = 0
   ·subst h0
    go_wp2_with fail
    refine (end_any ab rb bb r2 w4 WO.out.1).mono ?_
    rintro e w5 ⟨rfl, rfl⟩
    by_cases h1 : r2 = []
    ·rw [if_pos h1]
     go_wp2_with fail
     refine bodyPost_ret (v := .tuple #[.agg #[.int .u64 (x0 : Int), .int .u64 (x1 : Int), .int .u64 (x2 : Int), .int .u64 (x3 : Int), .slice q4 n4 e4], .int .i64 0]) (by simp [results, Try.results30, go_sem, z0, z1, z2, z3, z4]) rfl ?_
     have e := HP.out
     rw [parR, hX, if_pos ⟨rfl, h1⟩] at e
     exact ⟨⟨x0, x1, x2, x3, .slice q4 n4 e4, x⟩, by rw [e]; rfl, by rw [e]; rfl, WO.out.2.2.1.keeps (five _ _ _ _ _ _ _) WO.out.2.2.2, WO.out.2.1.then (five _ _ _ _ _ _ _) (fun i hi e => by omega)⟩
    ·rw [if_neg h1]
     go_wp2_with fail
     refine bodyPost_ret (v := .tuple #[.agg #[.int .u64 0, .int .u64 0, .int .u64 0, .int .u64 0, .slice none 0 0], .int .i64 5]) (by simp [results, Try.results30, go_sem, z0, z1, z2, z3, z4]) rfl ?_
     have e := HP.out
     rw [parR, hX, if_neg (fun h => h1 h.2)] at e
     exact ⟨⟨0, 0, 0, 0, .slice none 0 0, []⟩, by rw [e]; rfl, by rw [e]; rfl, Sees.nil _, WO.out.2.1.then (five _ _ _ _ _ _ _) (fun i hi e => by omega)⟩
   ·have d1 : ((ex : Int) != 0) = true := by simp; omega
    go_wp2_with fail
    refine bodyPost_ret (v := .tuple #[.agg #[.int .u64 0, .int .u64 0, .int .u64 0, .int .u64 0, .slice none 0 0], .int .i64 5]) (by simp [results, Try.results30, go_sem, z0, z1, z2, z3, z4]) rfl ?_
    have e := HP.out
    rw [parR, hX, if_neg (fun h => h0 h.1)] at e
    exact ⟨⟨0, 0, 0, 0, .slice none 0 0, []⟩, by rw [e]; rfl, by rw [e]; rfl, Sees.nil _, WO.out.2.1.then (five _ _ _ _ _ _ _) (fun i hi e => by omega)⟩
end Go.Proofs.Ytllnlimbfoingaa

namespace Go.Proofs.Ytllnlimbfoingaa
open Go.ChangeShapes Go.WideShapes Go.ChangeAt Go.RowKit Go.Deep
section
variable {H : Type} {enc : TypeId × Value → H} {W : World}
theorem cells_pk20 : Try.prog.cellsOf 34 = 5 := by kernel_rfl
theorem cells_u64' : Try.prog.cellsOf 22 = 1 := by kernel_rfl
theorem cells_bs : Try.prog.cellsOf 32 = 1 := by kernel_rfl
theorem u64_range' {z : Int} (h : (Lit.int .u64 z).wf = true) : 0 ≤ z ∧ z ≤ 18446744073709551615 := by
 simpa [Lit.wf, IntKind.min, IntKind.max, IntKind.signed, IntKind.bits] using h
theorem field_at' {fs : Array Field} {xs : List (DataW H × List MemPlace)} {n : Nat} {cs : List Value}
  (hf : ∀ (i : Nat) (f : Field), fs[i]? = some f → DataW.trod enc Try.prog W 0 (fun _ => true) true n f.type ((cs.drop f.offset).take (Try.prog.cellsOf f.type)) = xs[i]?) (hl : xs.length = fs.size)
  (i : Nat) (t : TypeId) (off k : Nat) (f : Field) (h : fs[i]? = some f) (ht : f.type = t) (ho : f.offset = off) (hk : Try.prog.cellsOf t = k) : ∃ y, y ∈ xs ∧ DataW.trod enc Try.prog W 0 (fun _ => true) true n t ((cs.drop off).take k) = some y := by
 subst ht ho hk
 have h1 := hf i f h
 have hi : i < xs.length := by rw [hl]; exact (Array.getElem?_eq_some_iff.1 h).1
 exact ⟨xs[i], List.getElem_mem hi, h1.trans (List.getElem?_eq_getElem hi)⟩
set_option maxRecDepth 100000 in
theorem read_pk {base : Nat} {v : Value} {d : DataW H} {p : List MemPlace} (hv : Value.okWide Try.prog W .any base 34 v) (h : DataW.Trod enc Try.prog W 0 (fun _ => true) true 34 v d p) :
  ∃ x : Pv, v = .agg x.cells.toArray ∧ x.src < 18446744073709551616 ∧ x.dst < 18446744073709551616 ∧ x.seq < 18446744073709551616 ∧ x.ack < 18446744073709551616 ∧ x.d.length < Rows.uptoBulk d ∧ Sees W x.v x.d := by
 obtain ⟨cs, rfl, hsz⟩ := okWide_struct Try.underlying34 hv
 obtain ⟨fuel, hf'⟩ := h
 obtain ⟨xs, n', q1, q2, hlen, hl, hf⟩ := DataW.trod_struct Try.underlying34 hf'
 obtain ⟨hd, -⟩ := Prod.mk.inj q2
 obtain ⟨l⟩ := cs
 rw [cells_pk20] at hlen
 simp only [Value.cells] at hlen hf
 match l, hlen with
 | [c0, c1, c2, c3, c4], _ =>
  obtain ⟨y0, m0, g0⟩ := field_at' hf hl 0 22 0 1 _ rfl rfl rfl cells_u64'
  obtain ⟨y1, m1, g1⟩ := field_at' hf hl 1 22 1 1 _ rfl rfl rfl cells_u64'
  obtain ⟨y2, m2, g2⟩ := field_at' hf hl 2 22 2 1 _ rfl rfl rfl cells_u64'
  obtain ⟨y3, m3, g3⟩ := field_at' hf hl 3 22 3 1 _ rfl rfl rfl cells_u64'
  obtain ⟨y4, m4, g4⟩ := field_at' hf hl 4 32 4 1 _ rfl rfl rfl cells_bs
  obtain ⟨z0, e0, _, w0⟩ := DataW.trod_int Try.underlying22 g0
  obtain ⟨z1, e1, _, w1⟩ := DataW.trod_int Try.underlying22 g1
  obtain ⟨z2, e2, _, w2⟩ := DataW.trod_int Try.underlying22 g2
  obtain ⟨z3, e3, _, w3⟩ := DataW.trod_int Try.underlying22 g3
  obtain ⟨v4, l4, e4, s4, b4⟩ := trod_bytes g4
  simp only [List.drop_zero, List.drop_succ_cons, List.take_succ_cons, List.take_zero, List.cons.injEq, and_true] at e0 e1 e2 e3 e4
  subst e0 e1 e2 e3 e4
  have r0 := u64_range' w0
  have r1 := u64_range' w1
  have r2 := u64_range' w2
  have r3 := u64_range' w3
  obtain ⟨a0, rfl⟩ := Int.eq_ofNat_of_zero_le r0.1
  obtain ⟨a1, rfl⟩ := Int.eq_ofNat_of_zero_le r1.1
  obtain ⟨a2, rfl⟩ := Int.eq_ofNat_of_zero_le r2.1
  obtain ⟨a3, rfl⟩ := Int.eq_ofNat_of_zero_le r3.1
  refine ⟨⟨a0, a1, a2, a3, _, l4⟩, rfl, by show a0 < _; omega, by show a1 < _; omega, by show a2 < _; omega, by show a3 < _; omega, ?_, s4⟩
  have hb := part_bulk (List.mem_map_of_mem (f := (·.1)) m4)
  rw [hd]
  simp only [Rows.uptoBulk]
  show l4.length < _
  omega
end
end Go.Proofs.Ytllnlimbfoingaa

namespace Go.Proofs.Ytllnlimbfoingaa
open Go.ChangeShapes Go.WideShapes Go.ChangeAt Go.RowKit Go.Deep
section
variable {H : Type} {enc : TypeId × Value → H} {W : World}
/-- a slice of rows among what came in; Q may speak of a row's bulk -/
theorem trod_rows_m {α : Type} [Inhabited α] (dec : α → List Value) (k : Nat) (e t : TypeId) (ht : Try.prog.underlying t = some (.slice e)) (hC : Try.prog.cellsOf e = k) (hk : 0 < k) (Q : α → Nat → Prop)
  (hd : ∀ n cs x, DataW.trod enc Try.prog W 0 (fun _ => true) true n e cs = some x → ∃ a, cs = dec a ∧ Q a (Rows.uptoBulk x.1)) {fuel : Nat} {cs : List Value} {x : DataW H × List MemPlace} (h : DataW.trod enc Try.prog W 0 (fun _ => true) true fuel t cs = some x) :
  ∃ v l, cs = [v] ∧ SeesR W k dec v l ∧ (∀ a ∈ l, ∃ m, Q a m ∧ m ≤ Rows.uptoBulk x.1) ∧ l.length < Rows.uptoBulk x.1 := by
 rcases open_slice ht h with ⟨hcs, hx⟩ | ⟨a, len, cap, m, n, D, Pl, hcs, _, hl, hm, hmm, hx, hi⟩
 ·exact ⟨_, [], hcs, SeesR.nil W, (fun a ha => by cases ha), one_le_bulk x.1⟩
 ·simp only [if_true] at hmm
  subst hmm
  rw [hC] at hi
  have hi' : ∀ i, i < m → ∃ y : α, (∀ j u, (dec y)[j]? = some u → W.cell? (a.add (i * k + j)) = some u) ∧ (dec y).length = k ∧ Q y (Rows.uptoBulk (D i)) := by
   intro i hlt
   obtain ⟨cs', hc, ht'⟩ := hi i hlt
   obtain ⟨y, rfl, hq⟩ := hd _ _ _ ht'
   obtain ⟨_, hcl, hat⟩ := World.cells?_some hc
   refine ⟨y, fun j u hu => ?_, hcl, hq⟩
   have hj : j < k := by rw [← hcl]; exact (List.getElem?_eq_some_iff.1 hu).1
   rw [← Go.Deep.add_add, hat j hj, hu]
  obtain ⟨f, hf⟩ := choose_lt hi'
  have hbulk : Rows.uptoBulkAll ((List.range len).map D) + 1 ≤ Rows.uptoBulk x.1 := by
   subst hx
   exact elems_bulk ((List.range len).map D) ((List.range (m - len)).map fun j => D (len + j))
  refine ⟨_, (List.range len).map f, hcs, ⟨some a, m, by simp, by simpa using hl, hm, fun h => (by cases h), fun a' ha => ?_⟩, ?_, ?_⟩
  ·cases ha
   refine ⟨fun hc => ?_, fun j y hj i u hu => ?_⟩
   ·obtain ⟨h1, h2, _⟩ := hf 0 hc
    have h0 : (dec (f 0))[0]? = some ((dec (f 0))[0]'(by omega)) := List.getElem?_eq_getElem _
    have := h1 0 _ h0
    have hs := World.cell?_spot this
    simpa [Addr.add] using hs
   ·have hjl : j < len := by have := (List.getElem?_eq_some_iff.1 hj).1; simpa using this
    have : y = f j := by simp [hjl] at hj; exact hj.symm
    subst this
    exact (hf j (by omega)).1 i u hu
  ·intro y hy
   obtain ⟨j, hj, rfl⟩ := List.mem_map.1 hy
   have hj' := List.mem_range.1 hj
   refine ⟨_, (hf j (by omega)).2.2, ?_⟩
   have := part_bulk (List.mem_map_of_mem (f := D) hj)
   omega
  ·have h2 := length_bulk ((List.range len).map D)
   simp only [List.length_map, List.length_range] at h2 ⊢
   omega
theorem cells_step : Try.prog.cellsOf 62 = 4 := by kernel_rfl
theorem cells_int' : Try.prog.cellsOf 3 = 1 := by kernel_rfl
end
end Go.Proofs.Ytllnlimbfoingaa

namespace Go.Proofs.Ytllnlimbfoingaa
open Go.ChangeShapes Go.WideShapes Go.ChangeAt Go.RowKit Go.Deep
section
variable {H : Type} {enc : TypeId × Value → H} {W : World}
set_option maxRecDepth 100000 in
theorem trod_step {n : Nat} {cs : List Value} {x : DataW H × List MemPlace} (h : DataW.trod enc Try.prog W 0 (fun _ => true) true n 62 cs = some x) :
  ∃ a : St4, cs = stL a ∧ a.2.2.2.2.length < Rows.uptoBulk x.1 ∧ Sees W a.2.2.2.1 a.2.2.2.2 := by
 obtain ⟨xs, n', q1, q2, hlen, hl, hf⟩ := DataW.trod_struct Try.underlying62 h
 subst q2
 rw [cells_step] at hlen
 match cs, hlen with
 | [c0, c1, c2, c3], _ =>
  obtain ⟨y0, m0, g0⟩ := field_at' hf hl 0 3 0 1 _ rfl rfl rfl cells_int'
  obtain ⟨y1, m1, g1⟩ := field_at' hf hl 1 3 1 1 _ rfl rfl rfl cells_int'
  obtain ⟨y2, m2, g2⟩ := field_at' hf hl 2 3 2 1 _ rfl rfl rfl cells_int'
  obtain ⟨y3, m3, g3⟩ := field_at' hf hl 3 32 3 1 _ rfl rfl rfl cells_bs
  obtain ⟨z0, e0, _, w0⟩ := DataW.trod_int Try.underlying3 g0
  obtain ⟨z1, e1, _, w1⟩ := DataW.trod_int Try.underlying3 g1
  obtain ⟨z2, e2, _, w2⟩ := DataW.trod_int Try.underlying3 g2
  obtain ⟨v3, l3, e3, s3, b3⟩ := trod_bytes g3
  simp only [List.drop_zero, List.drop_succ_cons, List.take_succ_cons, List.take_zero, List.cons.injEq, and_true] at e0 e1 e2 e3
  subst e0 e1 e2 e3
  refine ⟨(z0, z1, z2, ((_, l3) : Bv)), rfl, ?_, s3⟩
  have hb := part_bulk (List.mem_map_of_mem (f := (·.1)) m3)
  simp only [Rows.uptoBulk]
  show l3.length < _
  omega
set_option maxRecDepth 100000 in
theorem read_steps {base : Nat} {v : Value} {d : DataW H} {p : List MemPlace} (hv : Value.okWide Try.prog W .any base 58 v) (h : DataW.Trod enc Try.prog W 0 (fun _ => true) true 58 v d p) :
  ∃ l : List St4, SeesR W 4 stL v l ∧ ∀ a ∈ l, Sees W a.2.2.2.1 a.2.2.2.2 ∧ a.2.2.2.2.length ≤ Rows.uptoBulk d := by
 obtain ⟨a, len, cap, rfl⟩ := okWide_slice Try.underlying58 hv
 obtain ⟨fuel, hf⟩ := h
 haveI : Inhabited St4 := ⟨(0, 0, 0, .slice none 0 0, [])⟩
 obtain ⟨v, l, hc, hs, hq, _⟩ := trod_rows_m stL 4 62 58 Try.underlying58 cells_step (by decide) (fun a m => a.2.2.2.2.length < m ∧ Sees W a.2.2.2.1 a.2.2.2.2) (fun n cs x hh => trod_step hh) hf
 simp only [Value.cells, List.cons.injEq, and_true] at hc
 subst hc
 refine ⟨l, hs, fun a ha => ?_⟩
 obtain ⟨m, ⟨h1, h2⟩, h3⟩ := hq a ha
 have h3 : m ≤ Rows.uptoBulk d := h3
 exact ⟨h2, by omega⟩
end
set_option maxRecDepth 100000 in
theorem walk_LinkOrder {H : Type} (enc : TypeId × Value → H) (W : World) (base : Nat) {v0 : Value} {d0 : DataW H} {p0 : List MemPlace}
  (hv0 : Value.okWide Try.prog W .any base 58 v0) (h0 : DataW.Trod enc Try.prog W 0 (fun _ => true) true 58 v0 d0 p0)
  (hk : Rows.uptoBulkAll [d0] ≤ 1048576) :
  Calls Try.prog 4 #[v0] W fun e W' => e = .returned (.bool true) ∧ Below W.heap.size W W' := by
 obtain ⟨l, hl, hll⟩ := read_steps hv0 h0
 simp only [Rows.uptoBulkAll] at hk
 exact order_any v0 l W hl (fun x hx => ⟨(hll x hx).1, by have := (hll x hx).2; omega⟩)
end Go.Proofs.Ytllnlimbfoingaa

namespace Go.Proofs.Ytllnlimbfoingaa.linkOrder
open Go.ChangeShapes Go.WideShapes Go.ChangeAt Go.RowKit
theorem own : ownKnob Try.prog.godebug = none := by kernel_rfl
theorem laidOut : laidOutB Try.prog = true := by kernel_rfl

set_option maxRecDepth 100000 in
theorem lifted (os : Os) (started : os.Started) (H : Type) (enc : TypeId × Value → H) (F : Stop.Interp) :
  ReturnsInHanded {} Try.checked os 4 .any ((Rows.OpenSpec.upto Rows.linkOrderSpec).pre6 enc Try.prog Try.f4 Rows.linkOrderUptoRow.domain false) (((Rows.OpenSpec.upto Rows.linkOrderSpec).at F).post enc Try.prog Try.f4 false true false false) := by
 refine returnsInHanded_of_cond (C := Try.checked) (s := Rows.OpenSpec.upto Rows.linkOrderSpec) (k := Rows.uptoSmall) rfl own started (by kernel_rfl) Try.func4
  (OpenSpec.witness (enc := enc) (C := Try.checked) (s := Rows.OpenSpec.upto Rows.linkOrderSpec) (k := Rows.uptoSmall) rfl false ⟨#[], #[.slice none 0 0], []⟩ 8 (by kernel_rfl) (by kernel_rfl) (by kernel_rfl)
   (x := ([.nil], [], [])) (by kernel_rfl) rfl (by kernel_rfl)) ?_
 intro W base args ds gs before hval0 hW _ hk0 _
 have hval : ∀ (j : Nat) t v, Try.f4.params[j]? = some t → args[j]? = some v → Value.okWide Try.prog W .any base t v := hval0
 have hW' := hW
 obtain ⟨p, q, hA0, hV, rfl, hfz, hnd⟩ := hW
 have hA : DataW.TrodAll enc Try.prog W 0 (fun _ => true) true Try.f4.params.toList args.toList ds p := hA0
 rw [Try.params4] at hA hval
 obtain ⟨v0, vs0, d0, ds0, p0, q0, hargs, rfl, rfl, h0, r0⟩ := trodAll_cons hA
 obtain ⟨rfl, rfl, rfl⟩ := trodAll_nil r0
 obtain rfl : args = #[v0] := by cases args; simp_all
 obtain ⟨rfl, rfl⟩ := trodVars_none hV
 have lt0 : ∀ x ∈ p0, x.block < W.heap.size := by obtain ⟨m, hm⟩ := h0; exact DataW.trod_lt m _ _ _ hm
 have hk : Rows.uptoBulkAll [d0] ≤ 1048576 := of_decide_eq_true hk0
 clear hA0 hval0
 refine (walk_LinkOrder enc W base (hval 0 58 v0 rfl rfl) h0 hk).mono fun e W' ⟨he, bel⟩ => ?_
 subst he
 exact ⟨_, rfl, _, _, _, [], _, [], hW', trodAll_mk1 (shut_bool Try.underlying4 _), (trodAll_cons_mk (Below.trod laidOut (by kernel_rfl) (of_decide_eq_true (by kernel_rfl)) h0 bel lt0) trodAll_mk0), rfl, bel.frame _, fun h => by cases h⟩

theorem proved : Rows.LinkOrderUptoSaid :=
 OpenClaim.holds_of_cond 4 Try.f4 rfl rfl rfl rfl rfl rfl rfl ⟨rfl, rfl, rfl, rfl, rfl⟩ rfl rfl rfl rfl rfl (by kernel_rfl) Try.func4 (by kernel_rfl)
  (of_decide_eq_true (by kernel_rfl)) (by unfold Func.isWrapper; first | (rw [if_pos (by decide +kernel)]; kernel_rfl) | (rw [if_neg (by decide +kernel)]; exact ⟨rfl, rfl⟩))
  (fun os started H enc _ F => lifted os started H enc F)
end Go.Proofs.Ytllnlimbfoingaa.linkOrder
