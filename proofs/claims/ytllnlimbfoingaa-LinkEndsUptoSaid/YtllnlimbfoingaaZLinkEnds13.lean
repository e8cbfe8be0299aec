/- DERIVED. Chapter 20: Put, of both; Ours. · DERIVED. Chapter 20: Ours: the document's packet as the program's. · DERIVED. Chapter 20: Parse, of both. -/
import Derived.Test.YtllnlimbfoingaaZLinkEnds11
import Derived.Test.YtllnlimbfoingaaZLinkEnds12
import Derived.Deep.LoopGhost
import Derived.Deep.DeepCutAuto
import Derived.BigQuiet
namespace Go.Proofs.Ytllnlimbfoingaa
open Go.RowKit

/-- a packet that can be laid -/
def PkIn (p : Pv) : Prop := p.src < 18446744073709551616 ∧ p.dst < 18446744073709551616 ∧ p.seq < 18446744073709551616 ∧ p.ack < 18446744073709551616 ∧ p.d.length ≤ 10000000
theorem PkIn.small {p : Pv} (h : PkIn p) : p.plain.small := ⟨h.1, h.2.1, h.2.2.1, h.2.2.2.1⟩

set_option maxRecDepth 100000 in
set_option maxHeartbeats 1000000 in
theorem rput_any (p : Pv) (w : World) (hs : Sees w p.v p.d) (hp : PkIn p) : Calls Try.prog 32 #[.agg p.cells.toArray] w (Gives w (encP p.plain)) := by
 obtain ⟨pv, cv, hv, _, _⟩ := hs.len
 obtain ⟨p0, p1, p2, p3, v, d⟩ := p
 simp only at hv hs
 subst hv
 obtain ⟨h1, h2, h3, h4, hd⟩ : p0 < 18446744073709551616 ∧ p1 < 18446744073709551616 ∧ p2 < 18446744073709551616 ∧ p3 < 18446744073709551616 ∧ d.length ≤ 10000000 := hp
 have f1 := form_le10 h1
 have f2 := form_le10 h2
 have f3 := form_le10 h3
 have f4 := form_le10 h4
 obtain ⟨w1, hw1⟩ : ∃ w1, w.alloc (.cells #[.int .u64 (p0 : Int), .int .u64 (p1 : Int), .int .u64 (p2 : Int), .int .u64 (p3 : Int), .slice pv d.length cv] 34) = w1 := ⟨_, rfl⟩
 have o1 : Old w w1 := by rw [← hw1]; exact (Keeps.refl _ _).alloc _
 have b1 : w1.heap[w.heap.size]? = some (.cells #[.int .u64 (p0 : Int), .int .u64 (p1 : Int), .int .u64 (p2 : Int), .int .u64 (p3 : Int), .slice pv d.length cv] 34 (0, 0)) := by rw [← hw1]; exact heap_alloc_new _ _
 have s1 := hs.old o1
 obtain ⟨⟨c0, -, -, -, -⟩, -⟩ := blk5 b1
 have H := Lib.hid (And.intro h1 (And.intro h2 (And.intro h3 (And.intro h4 (And.intro hd (And.intro f1 (And.intro f2 (And.intro f3 f4))))))))
 have W1 := Lib.hid (And.intro o1 (And.intro b1 s1))
 clear h1 h2 h3 h4 hd f1 f2 f3 f4 hs o1 b1 s1
 simp only [Pv.cells]
 go_enter Try.func32, Try.ntmps32
 go_wp2_with fail
 refine (ref_num_any _ [] p0 _ (Sees.nil _) (by simp) H.out.1).mono ?_
 rintro e w2 ⟨q2, n2, e2, rfl, ho, hk⟩
 obtain ⟨⟨-, c1, -, -, -⟩, -⟩ := blk5 ((hk.block _ (lt_of_block W1.out.2.1) (fun f => f)).trans W1.out.2.1)
 have W2 := Lib.hid (And.intro (W1.out.1.trans hk) (And.intro ((hk.block _ (lt_of_block W1.out.2.1) (fun f => f)).trans W1.out.2.1) (And.intro (W1.out.2.2.old hk) ho)))
 clear W1 ho hk c0
 go_wp2_with fail
 refine (ref_num_any _ _ p1 _ W2.out.2.2.2.sees (by have := H.out; simp; omega) H.out.2.1).mono ?_
 rintro e w3 ⟨q3, n3, e3, rfl, ho, hk⟩
 obtain ⟨⟨-, -, c2, -, -⟩, -⟩ := blk5 ((hk.block _ (lt_of_block W2.out.2.1) (fun f => f)).trans W2.out.2.1)
 have W3 := Lib.hid (And.intro (W2.out.1.trans hk) (And.intro ((hk.block _ (lt_of_block W2.out.2.1) (fun f => f)).trans W2.out.2.1) (And.intro (W2.out.2.2.1.old hk) ho)))
 clear W2 ho hk c1
 go_wp2_with fail
 refine (ref_num_any _ _ p2 _ W3.out.2.2.2.sees (by have := H.out; simp; omega) H.out.2.2.1).mono ?_
 rintro e w4 ⟨q4, n4, e4, rfl, ho, hk⟩
 obtain ⟨⟨-, -, -, c3, -⟩, -⟩ := blk5 ((hk.block _ (lt_of_block W3.out.2.1) (fun f => f)).trans W3.out.2.1)
 have W4 := Lib.hid (And.intro (W3.out.1.trans hk) (And.intro ((hk.block _ (lt_of_block W3.out.2.1) (fun f => f)).trans W3.out.2.1) (And.intro (W3.out.2.2.1.old hk) ho)))
 clear W3 ho hk c2
 go_wp2_with fail
 refine (ref_num_any _ _ p3 _ W4.out.2.2.2.sees (by have := H.out; simp; omega) H.out.2.2.2.1).mono ?_
 rintro e w5 ⟨q5, n5, e5, rfl, ho, hk⟩
 obtain ⟨⟨-, -, -, -, c4⟩, -⟩ := blk5 ((hk.block _ (lt_of_block W4.out.2.1) (fun f => f)).trans W4.out.2.1)
 have W5 := Lib.hid (And.intro (W4.out.1.trans hk) (And.intro (W4.out.2.2.1.old hk) ho))
 clear W4 ho hk c3
 go_wp2_with fail
 refine (ref_bytes_any _ _ _ d _ W5.out.2.2.sees W5.out.2.1 (by have := H.out; simp; omega) (by have := H.out; omega)).mono ?_
 rintro e w6 ⟨q6, n6, e6, rfl, ho, hk⟩
 have W6 := Lib.hid (And.intro (W5.out.1.trans hk) (And.intro ho W5.out.1.size))
 clear W5 ho hk c4
 go_wp2_with fail
 go_ret
 refine gives rfl ?_ W6.out.1
 have := W6.out.2.1.mono W6.out.2.2
 simpa [encP, Pv.plain] using this

theorem flat_le (ns : List Nat) (h : ∀ n ∈ ns, n < 18446744073709551616) : ((ns.map form).flatten).length ≤ 10 * ns.length := by
 induction ns with
 | nil => simp
 | cons n ns ih =>
  have h1 := form_le10 (h n (by simp))
  have h2 := ih (fun m hm => h m (List.mem_cons_of_mem _ hm))
  simp only [List.map_cons, List.flatten_cons, List.length_append, List.length_cons]
  omega
theorem take_next (ns : List Nat) (k n : Nat) (h : ns[k]? = some n) : ((ns.take (k + 1)).map form).flatten = ((ns.take k).map form).flatten ++ form n := by
 rw [List.take_add_one, h]
 simp
set_option maxRecDepth 100000 in
set_option maxHeartbeats 1000000 in
theorem put_any (p : Pv) (w : World) (hs : Sees w p.v p.d) (hp : PkIn p) : Calls Try.prog 29 #[.agg p.cells.toArray] w (Gives w (encP p.plain)) := by
 obtain ⟨pv, cv, hv, _, _⟩ := hs.len
 obtain ⟨p0, p1, p2, p3, v, d⟩ := p
 simp only at hv hs
 subst hv
 obtain ⟨h1, h2, h3, h4, hd⟩ : p0 < 18446744073709551616 ∧ p1 < 18446744073709551616 ∧ p2 < 18446744073709551616 ∧ p3 < 18446744073709551616 ∧ d.length ≤ 10000000 := hp
 obtain ⟨w1, hw1⟩ : ∃ w1, w.alloc (.cells #[.int .u64 (p0 : Int), .int .u64 (p1 : Int), .int .u64 (p2 : Int), .int .u64 (p3 : Int), .slice pv d.length cv] 37) = w1 := ⟨_, rfl⟩
 have o1 : Old w w1 := by rw [← hw1]; exact (Keeps.refl _ _).alloc _
 have b1 : w1.heap[w.heap.size]? = some (.cells #[.int .u64 (p0 : Int), .int .u64 (p1 : Int), .int .u64 (p2 : Int), .int .u64 (p3 : Int), .slice pv d.length cv] 37 (0, 0)) := by rw [← hw1]; exact heap_alloc_new _ _
 obtain ⟨w2, hw2⟩ : ∃ w2, w1.alloc (.cells #[.int .u64 (p0 : Int), .int .u64 (p1 : Int), .int .u64 (p2 : Int), .int .u64 (p3 : Int)] 22) = w2 := ⟨_, rfl⟩
 have o2 : Old w1 w2 := by rw [← hw2]; exact (Keeps.refl _ _).alloc _
 have hrow : ∀ (k n : Nat), [p0, p1, p2, p3][k]? = some n → w2.cell? ⟨w1.heap.size, k, none⟩ = some (.int .u64 (n : Int)) := by
  intro k n hn
  rw [← hw2, World.cell?_alloc_at _ _ _ _ rfl]
  rcases k with _ | _ | _ | _ | k <;> simp_all
 obtain ⟨⟨c0, c1, c2, c3, c4⟩, -⟩ := blk5 b1
 have s2 := (hs.old o1).old o2
 have b2 := (o2.block _ (lt_of_block b1) (fun f => f)).trans b1
 have hns : ∀ n ∈ [p0, p1, p2, p3], n < 18446744073709551616 := by
  intro n hn
  simp only [List.mem_cons, List.not_mem_nil, or_false] at hn
  rcases hn with rfl | rfl | rfl | rfl <;> assumption
 have H := Lib.hid (And.intro hns hd)
 have W2 := Lib.hid (And.intro (o1.trans o2) (And.intro b2 (And.intro s2 (And.intro hrow (And.intro o1.size o2.size)))))
 clear h1 h2 h3 h4 hd hs o1 b1 s2 o2 b2 hrow hns
 simp only [Pv.cells]
 go_enter Try.func29, Try.ntmps29
 go_wp2_with fail
 go_loopg [3, 16] 4 (fun n v3 i wm => ∃ k : Nat, k ≤ 4 ∧ n = 4 - k ∧ i = .int .i64 (k : Int) ∧ Sees wm v3 ((([p0, p1, p2, p3].take k).map form).flatten) ∧ Old w2 wm)
 case atStart => exact ⟨0, by omega, rfl, rfl, Sees.nil _, Keeps.refl _ _⟩
 case round =>
  obtain ⟨k, hk4, rfl, rfl, hsee, hkr⟩ := hrel
  by_cases hlt : k < 4
  ·obtain ⟨n, hn⟩ : ∃ n, [p0, p1, p2, p3][k]? = some n := ⟨_, List.getElem?_eq_getElem (by simpa using hlt)⟩
   have d0 := hkr.cell (W2.out.2.2.2.1 k n hn) (fun f => f)
   have b1 : (k : Int) < 4 := by omega
   have hnl : n < 18446744073709551616 := H.out.1 n (List.mem_of_getElem? hn)
   have hfl := flat_le ([p0, p1, p2, p3].take k) (fun m hm => H.out.1 m (List.mem_of_mem_take hm))
   have hll : ((([p0, p1, p2, p3].take k).map form).flatten).length ≤ 1000000000 := by
    have : ([p0, p1, p2, p3].take k).length ≤ 4 := by rw [List.length_take]; simp; omega
    omega
   have HH := Lib.hid (And.intro hsee (And.intro hkr (And.intro hn (And.intro hnl hll))))
   clear hsee hkr hn hnl hll hfl
   go_wp2_with fail
   refine (num_any _ _ n wr HH.out.1 HH.out.2.2.2.2 HH.out.2.2.2.1).mono ?_
   rintro e w3 ⟨q3, n3, e3, rfl, ho, hk⟩
   have W3 := Lib.hid (And.intro ho.sees (HH.out.2.1.trans hk))
   clear ho hk
   go_wp2_with fail
   go_roundg (4 - (k + 1))
   case measure => omega
   case rel => exact ⟨k + 1, by omega, rfl, by go_num, by rw [take_next _ _ _ HH.out.2.2.1]; exact W3.out.1, W3.out.2⟩
  ·obtain rfl : k = 4 := by omega
   obtain ⟨⟨-, -, -, -, c4⟩, -⟩ := blk5 ((hkr.block _ (lt_of_block W2.out.2.1) (fun f => f)).trans W2.out.2.1)
   have K := Lib.hid (And.intro hsee (And.intro (W2.out.2.2.1.old hkr) (W2.out.1.trans hkr)))
   clear hsee hkr
   go_wp2_with fail
   refine (bytes_any _ _ _ d wr K.out.1 K.out.2.1 ?_ (by have := H.out.2; omega)).mono ?_
   ·have := flat_le [p0, p1, p2, p3] H.out.1
    exact Nat.le_trans this (by simp)
   rintro e w6 ⟨q6, n6, e6, rfl, ho, hk⟩
   have W6 := Lib.hid (And.intro (K.out.2.2.trans hk) (And.intro ho K.out.2.2.size))
   clear ho hk
   go_wp2_with fail
   go_ret
   refine gives rfl ?_ W6.out.1
   have := W6.out.2.1.mono W6.out.2.2
   simpa [encP, Pv.plain] using this
end Go.Proofs.Ytllnlimbfoingaa

namespace Go.Proofs.Ytllnlimbfoingaa
open Go.RowKit
set_option maxRecDepth 100000 in
set_option maxHeartbeats 1000000 in
theorem ours_own (p : Pv) (w : World) (hs : Sees w p.v p.d) (hd : p.d.length ≤ 140737488355328) : Calls Try.prog 11 #[.agg p.cells.toArray] w fun e w' => ∃ q : Pv, e = .returned (.agg q.cells.toArray) ∧ q.plain = p.plain ∧ Owns w' w.heap.size q.v q.d ∧ Old w w' := by
 obtain ⟨pv, cv, hv, _, _⟩ := hs.len
 obtain ⟨p0, p1, p2, p3, v, d⟩ := p
 simp only at hv hs hd
 subst hv
 obtain ⟨w1, hw1⟩ : ∃ w1, (w.alloc (.cells #[.int .u64 (p0 : Int), .int .u64 (p1 : Int), .int .u64 (p2 : Int), .int .u64 (p3 : Int), .slice pv d.length cv] 34)).alloc (.cells #[.int .u64 0, .int .u64 0, .int .u64 0, .int .u64 0, .slice none 0 0] 37) = w1 := ⟨_, rfl⟩
 have o1 : Old w w1 := by rw [← hw1]; exact ((Keeps.refl _ _).alloc _).alloc _
 have b0 : w1.heap[w.heap.size]? = some (.cells #[.int .u64 (p0 : Int), .int .u64 (p1 : Int), .int .u64 (p2 : Int), .int .u64 (p3 : Int), .slice pv d.length cv] 34 (0, 0)) := by
  rw [← hw1, heap_alloc_old _ _ (by simp)]; exact heap_alloc_new _ _
 have b1 : w1.heap[w.heap.size + 1]? = some (.cells #[.int .u64 0, .int .u64 0, .int .u64 0, .int .u64 0, .slice none 0 0] 37 (0, 0)) := by
  rw [← hw1]
  have := heap_alloc_new (w.alloc (.cells #[.int .u64 (p0 : Int), .int .u64 (p1 : Int), .int .u64 (p2 : Int), .int .u64 (p3 : Int), .slice pv d.length cv] 34)) (.cells #[.int .u64 0, .int .u64 0, .int .u64 0, .int .u64 0, .slice none 0 0] 37)
  simpa using this
 obtain ⟨⟨c0, c1, c2, c3, c4⟩, -⟩ := blk5 b0
 have hS : w1.drew.cell? ⟨w.heap.size, 0, none⟩ = some (.int .u64 (p0 : Int)) ∧ w1.drew.cell? ⟨w.heap.size, 1, none⟩ = some (.int .u64 (p1 : Int)) ∧ w1.drew.cell? ⟨w.heap.size, 2, none⟩ = some (.int .u64 (p2 : Int)) ∧ w1.drew.cell? ⟨w.heap.size, 3, none⟩ = some (.int .u64 (p3 : Int)) ∧ w1.drew.cell? ⟨w.heap.size, 4, none⟩ = some (.slice pv d.length cv) := ⟨c0, c1, c2, c3, c4⟩
 have C := Lib.hid (own20 (.slice pv d.length cv) d w1.drew (hs.old o1.drew) hd)
 have H := Lib.hid (And.intro o1 b1)
 clear hs o1 b0 b1 c0 c1 c2 c3 c4
 simp only [Pv.cells]
 go_enter Try.func11, Try.ntmps11
 go_wp2_with fail
 refine wp_region_g (S := fun w' => w'.cell? ⟨w.heap.size, 0, none⟩ = some (.int .u64 (p0 : Int)) ∧ w'.cell? ⟨w.heap.size, 1, none⟩ = some (.int .u64 (p1 : Int)) ∧ w'.cell? ⟨w.heap.size, 2, none⟩ = some (.int .u64 (p2 : Int)) ∧ w'.cell? ⟨w.heap.size, 3, none⟩ = some (.int .u64 (p3 : Int)) ∧ w'.cell? ⟨w.heap.size, 4, none⟩ = some (.slice pv d.length cv)) (M := [0, 1, 2, 3, 4, 5, 6, 7, 8, 9, 10, 11]) (by kernel_rfl) ?_
 refine wpAnyG_takeL (i := 0) (oi := _) (v := ?vt0) rfl (by kernel_rfl) (by kernel_rfl) (by kernel_rfl) (by kernel_rfl) (fun _ _ _ h => h) (Or.inl ⟨by rfl, ?yt0⟩) hS ?rt0
 case yt0 => (intro W hSw; obtain ⟨y0, y1, y2, y3, y4⟩ := hSw; go_simp; try with_reducible rfl)
 try simp only [Act.put, List.setIfInBounds_toArray, List.set_cons_zero, List.set_cons_succ]
 refine wpAnyG_takeL (i := 1) (oi := _) (v := ?vt1) rfl (by kernel_rfl) (by kernel_rfl) (by kernel_rfl) (by kernel_rfl) (fun _ _ _ h => h) (Or.inl ⟨by rfl, ?yt1⟩) hS ?rt1
 case yt1 => (intro W hSw; obtain ⟨y0, y1, y2, y3, y4⟩ := hSw; go_simp; try with_reducible rfl)
 try simp only [Act.put, List.setIfInBounds_toArray, List.set_cons_zero, List.set_cons_succ]
 refine wpAnyG_takeL (i := 2) (oi := _) (v := ?vt2) rfl (by kernel_rfl) (by kernel_rfl) (by kernel_rfl) (by kernel_rfl) (fun _ _ _ h => h) (Or.inl ⟨by rfl, ?yt2⟩) hS ?rt2
 case yt2 => (intro W hSw; obtain ⟨y0, y1, y2, y3, y4⟩ := hSw; go_simp; try with_reducible rfl)
 try simp only [Act.put, List.setIfInBounds_toArray, List.set_cons_zero, List.set_cons_succ]
 refine wpAnyG_takeL (i := 3) (oi := _) (v := ?vt3) rfl (by kernel_rfl) (by kernel_rfl) (by kernel_rfl) (by kernel_rfl) (fun _ _ _ h => h) (Or.inl ⟨by rfl, ?yt3⟩) hS ?rt3
 case yt3 => (intro W hSw; obtain ⟨y0, y1, y2, y3, y4⟩ := hSw; go_simp; try with_reducible rfl)
 try simp only [Act.put, List.setIfInBounds_toArray, List.set_cons_zero, List.set_cons_succ]
 refine wpAnyG_takeL (i := 4) (oi := _) (v := ?vt4) rfl (by kernel_rfl) (by kernel_rfl) (by kernel_rfl) (by kernel_rfl) (fun _ _ _ h => h) (Or.inl ⟨by rfl, ?yt4⟩) hS ?rt4
 case yt4 => (intro W hSw; obtain ⟨y0, y1, y2, y3, y4⟩ := hSw; go_simp; try with_reducible rfl)
 try simp only [Act.put, List.setIfInBounds_toArray, List.set_cons_zero, List.set_cons_succ]
 refine wpAnyG_takeL (i := 5) (oi := _) (v := ?vt5) rfl (by kernel_rfl) (by kernel_rfl) (by kernel_rfl) (by kernel_rfl) (fun _ _ _ h => h) (Or.inl ⟨by rfl, ?yt5⟩) hS ?rt5
 case yt5 => (intro W hSw; obtain ⟨y0, y1, y2, y3, y4⟩ := hSw; go_simp; try with_reducible rfl)
 try simp only [Act.put, List.setIfInBounds_toArray, List.set_cons_zero, List.set_cons_succ]
 refine wpAnyG_takeL (i := 6) (oi := _) (v := ?vt6) rfl (by kernel_rfl) (by kernel_rfl) (by kernel_rfl) (by kernel_rfl) (fun _ _ _ h => h) (Or.inl ⟨by rfl, ?yt6⟩) hS ?rt6
 case yt6 => (intro W hSw; obtain ⟨y0, y1, y2, y3, y4⟩ := hSw; go_simp; try with_reducible rfl)
 try simp only [Act.put, List.setIfInBounds_toArray, List.set_cons_zero, List.set_cons_succ]
 refine wpAnyG_takeL (i := 7) (oi := _) (v := ?vt7) rfl (by kernel_rfl) (by kernel_rfl) (by kernel_rfl) (by kernel_rfl) (fun _ _ _ h => h) (Or.inl ⟨by rfl, ?yt7⟩) hS ?rt7
 case yt7 => (intro W hSw; obtain ⟨y0, y1, y2, y3, y4⟩ := hSw; go_simp; try with_reducible rfl)
 try simp only [Act.put, List.setIfInBounds_toArray, List.set_cons_zero, List.set_cons_succ]
 refine wpAnyG_takeL (i := 8) (oi := _) (v := ?vt8) rfl (by kernel_rfl) (by kernel_rfl) (by kernel_rfl) (by kernel_rfl) (fun _ _ _ h => h) (Or.inl ⟨by rfl, ?yt8⟩) hS ?rt8
 case yt8 => (intro W hSw; obtain ⟨y0, y1, y2, y3, y4⟩ := hSw; go_simp; try with_reducible rfl)
 try simp only [Act.put, List.setIfInBounds_toArray, List.set_cons_zero, List.set_cons_succ]
 refine wpAnyG_takeL (i := 9) (oi := _) (v := ?vt9) rfl (by kernel_rfl) (by kernel_rfl) (by kernel_rfl) (by kernel_rfl) (fun _ _ _ h => h) (Or.inl ⟨by rfl, ?yt9⟩) hS ?rt9
 case yt9 => (intro W hSw; obtain ⟨y0, y1, y2, y3, y4⟩ := hSw; go_simp; try with_reducible rfl)
 try simp only [Act.put, List.setIfInBounds_toArray, List.set_cons_zero, List.set_cons_succ]
 refine wpAnyG_onlyL (i := 10) (o := _) (by kernel_rfl) rfl (fun K hK => ?_)
 go_simp
 refine C.out.mono ?_
 rintro e w2 ⟨p2', n2, c2, rfl, ho2, hk2⟩
 have hS2 : w2.cell? ⟨w.heap.size, 0, none⟩ = some (.int .u64 (p0 : Int)) ∧ w2.cell? ⟨w.heap.size, 1, none⟩ = some (.int .u64 (p1 : Int)) ∧ w2.cell? ⟨w.heap.size, 2, none⟩ = some (.int .u64 (p2 : Int)) ∧ w2.cell? ⟨w.heap.size, 3, none⟩ = some (.int .u64 (p3 : Int)) ∧ w2.cell? ⟨w.heap.size, 4, none⟩ = some (.slice pv d.length cv) := ⟨hk2.cell hS.1 (fun f => f), hk2.cell hS.2.1 (fun f => f), hk2.cell hS.2.2.1 (fun f => f), hk2.cell hS.2.2.2.1 (fun f => f), hk2.cell hS.2.2.2.2 (fun f => f)⟩
 have b2 : w2.heap[w.heap.size + 1]? = _ := (hk2.block (w.heap.size + 1) (by have := (Array.getElem?_eq_some_iff.1 H.out.2).1; exact this) (fun f => f)).trans (show w1.drew.heap[w.heap.size + 1]? = _ from H.out.2)
 obtain ⟨⟨z0, z1, z2, z3, z4⟩, ⟨y0, y1, y2, y3, y4⟩⟩ := blk5 b2
 have F := Lib.hid (And.intro ho2 (And.intro hk2 b2))
 clear ho2 hk2 b2
 go_wp2_with fail
 refine hK.out _ _ (fun _ => hS2) ?_
 clear hK K
 try simp only [Act.put, List.setIfInBounds_toArray, List.set_cons_zero, List.set_cons_succ]
 refine wpAnyG_onlyL (i := 11) (o := _) (by kernel_rfl) rfl (fun K hK => ?_)
 go_simp
 refine hK.out _ _ (fun _ => hS2) ?_
 clear hK K
 try simp only [Act.put, List.setIfInBounds_toArray, List.set_cons_zero, List.set_cons_succ]
 refine wpAnyG_onlyL (i := 12) (o := _) (by kernel_rfl) rfl (fun K hK => ?_)
 go_simp
 refine hK.out _ _ (fun h => absurd h (by decide)) ?_
 clear hK K
 try simp only [Act.put, List.setIfInBounds_toArray, List.set_cons_zero, List.set_cons_succ]
 refine wpAnyG_done (by kernel_rfl) ?_ _
 have k3 : Keeps (fun k => k = w.heap.size + 1) w2 (((((w2.setCell ⟨w.heap.size + 1, 0, none⟩ (.int .u64 (p0 : Int))).setCell ⟨w.heap.size + 1, 1, none⟩ (.int .u64 (p1 : Int))).setCell ⟨w.heap.size + 1, 2, none⟩ (.int .u64 (p2 : Int))).setCell ⟨w.heap.size + 1, 3, none⟩ (.int .u64 (p3 : Int))).setCell ⟨w.heap.size + 1, 4, none⟩ (.slice p2' n2 c2)) := setAt (setAt (setAt (setAt (setAt (Keeps.refl _ _) 0 _) 1 _) 2 _) 3 _) 4 _
 have K3 := Lib.hid k3
 clear k3
 go_wp2_with fail
 refine bodyPost_ret (v := .agg #[.int .u64 (p0 : Int), .int .u64 (p1 : Int), .int .u64 (p2 : Int), .int .u64 (p3 : Int), .slice p2' n2 c2]) (by simp [results, Try.results11, go_sem, z0, z1, z2, z3, z4]) rfl ?_
 have hz : w.heap.size + 1 < w1.drew.heap.size := (Array.getElem?_eq_some_iff.1 H.out.2).1
 refine ⟨⟨p0, p1, p2, p3, .slice p2' n2 c2, d⟩, rfl, rfl, (F.out.1.keeps K3.out (fun b hb e => ?_)).mono H.out.1.size, ((H.out.1.drew).trans F.out.2.1).then K3.out (fun i hi e => by omega)⟩
 have := (F.out.1.block b hb).1
 omega
theorem ours_any (p : Pv) (w : World) (hs : Sees w p.v p.d) (hd : p.d.length ≤ 140737488355328) : Calls Try.prog 11 #[.agg p.cells.toArray] w fun e w' => ∃ q : Pv, e = .returned (.agg q.cells.toArray) ∧ q.plain = p.plain ∧ Sees w' q.v q.d ∧ Old w w' := by
 refine (ours_own p w hs hd).mono ?_
 rintro e w' ⟨q, rfl, h1, h2, h3⟩
 exact ⟨q, rfl, h1, h2.sees, h3⟩
end Go.Proofs.Ytllnlimbfoingaa

namespace Go.Proofs.Ytllnlimbfoingaa
open Go.RowKit

theorem five (w : World) (b : Nat) (x0 x1 x2 x3 x4 : Value) : Keeps (fun k => k = b) w (((((w.setCell ⟨b, 0, none⟩ x0).setCell ⟨b, 1, none⟩ x1).setCell ⟨b, 2, none⟩ x2).setCell ⟨b, 3, none⟩ x3).setCell ⟨b, 4, none⟩ x4) := setAt (setAt (setAt (setAt (setAt (Keeps.refl _ _) 0 _) 1 _) 2 _) 3 _) 4 _
/-- what a Parse hands back -/
def ParPost (w : World) (l : List UInt8) (e : Ending) (w' : World) : Prop := ∃ q : Pv, e = .returned (.tuple #[.agg q.cells.toArray, .int .i64 ((parP l).2 : Int)]) ∧ q.plain = (parP l).1 ∧ Sees w' q.v q.d ∧ Old w w'
set_option maxRecDepth 100000 in
set_option maxHeartbeats 1000000 in
theorem rparse_any (v : Value) (l : List UInt8) (w : World) (hs : Sees w v l) (hl : l.length ≤ 100000000) : Calls Try.prog 31 #[v] w (ParPost w l) := by
 have hq := parQ_eq l
 obtain ⟨a, ea, la, hA⟩ : ∃ a e r, readNum l 18446744073709551615 = (a, e, r) := ⟨_, _, _, rfl⟩
 obtain ⟨b, eb, lb, hB⟩ : ∃ a e r, readNum la 18446744073709551615 = (a, e, r) := ⟨_, _, _, rfl⟩
 obtain ⟨c, ec, lc, hC⟩ : ∃ a e r, readNum lb 18446744073709551615 = (a, e, r) := ⟨_, _, _, rfl⟩
 obtain ⟨d, ed, ld, hD⟩ : ∃ a e r, readNum lc 18446744073709551615 = (a, e, r) := ⟨_, _, _, rfl⟩
 obtain ⟨x, ex, lx, hX⟩ : ∃ a e r, readBytes ld 9223372036854775807 = (a, e, r) := ⟨_, _, _, rfl⟩
 simp only [parQ, hA, hB, hC, hD, hX] at hq
 obtain ⟨w1, hw1⟩ : ∃ w1, w.alloc (.cells #[.int .u64 0, .int .u64 0, .int .u64 0, .int .u64 0, .slice none 0 0] 34) = w1 := ⟨_, rfl⟩
 have o1 : Old w w1 := by rw [← hw1]; exact (Keeps.refl _ _).alloc _
 have b1 : w1.heap[w.heap.size]? = some (.cells #[.int .u64 0, .int .u64 0, .int .u64 0, .int .u64 0, .slice none 0 0] 34 (0, 0)) := by rw [← hw1]; exact heap_alloc_new _ _
 have W1 := Lib.hid (And.intro o1 (And.intro b1 (hs.old o1)))
 have H := Lib.hid (And.intro hq (And.intro hA (And.intro hB (And.intro hC (And.intro hD (And.intro hX hl))))))
 clear hq hA hB hC hD hX hl hs o1 b1
 go_enter Try.func31, Try.ntmps31
 go_wp2_with fail
 refine (own20 v l w1 W1.out.2.2 (by have := H.out.2.2.2.2.2.2; omega)).mono ?_
 rintro e w2 ⟨p2, n2, c2, rfl, ho, hk⟩
 obtain ⟨wq, hwq⟩ : ∃ wq, w2.alloc (.cells #[.slice p2 n2 c2] 109) = wq := ⟨_, rfl⟩
 obtain ⟨qb, hqb⟩ : ∃ qb, w2.heap.size = qb := ⟨_, rfl⟩
 have hz1 : w.heap.size < w1.heap.size := lt_of_block W1.out.2.1
 have q1 : Qd wq qb (.slice p2 n2 c2) l := by
  rw [← hwq, ← hqb]
  refine ⟨heap_alloc_new _ _, ho.sees.alloc _, by have := H.out.2.2.2.2.2.2; omega, fun k hk' => ?_⟩
  have := (ho.block k hk').2
  simp
  omega
 have kq : Old w1 wq := by rw [← hwq]; exact hk.alloc _
 have hb : w.heap.size ≠ qb := by have := hk.size; omega
 have W2 := Lib.hid (And.intro (W1.out.1.trans kq) (And.intro ((kq.block _ hz1 (fun f => f)).trans W1.out.2.1) (And.intro q1 (And.intro hb (by have := hk.size; have := W1.out.1.size; omega : w.heap.size ≤ qb)))))
 clear ho hk q1 kq W1 hz1 hb
 go_wp2_with fail
 clear hwq hqb
 refine (qnum_any qb _ l 18446744073709551615 wq W2.out.2.2.1 (by decide)).mono ?_
 rintro e w3 ⟨he, v3, hq, -, hk⟩
 rw [H.out.2.1] at he hq
 subst he
 have W3 := Lib.hid (And.intro hq hk)
 clear hq hk
 go_wp2_with fail
 refine (qnum_any qb _ la 18446744073709551615 w3 W3.out.1 (by decide)).mono ?_
 rintro e w4 ⟨he, v4, hq, -, hk⟩
 rw [H.out.2.2.1] at he hq
 subst he
 have W4 := Lib.hid (And.intro hq (W3.out.2.trans hk))
 clear hq hk W3
 go_wp2_with fail
 refine (qnum_any qb _ lb 18446744073709551615 w4 W4.out.1 (by decide)).mono ?_
 rintro e w5 ⟨he, v5, hq, -, hk⟩
 rw [H.out.2.2.2.1] at he hq
 subst he
 have W5 := Lib.hid (And.intro hq (W4.out.2.trans hk))
 clear hq hk W4
 go_wp2_with fail
 refine (qnum_any qb _ lc 18446744073709551615 w5 W5.out.1 (by decide)).mono ?_
 rintro e w6 ⟨he, v6, hq, -, hk⟩
 rw [H.out.2.2.2.2.1] at he hq
 subst he
 have W6 := Lib.hid (And.intro hq (W5.out.2.trans hk))
 clear hq hk W5
 go_wp2_with fail
 refine (qbytes_any qb _ ld 9223372036854775807 w6 W6.out.1 (by decide)).mono ?_
 rintro e w7 ⟨p7, n7, c7, he, ho, v7, hq, -, hk⟩
 rw [H.out.2.2.2.2.2.1] at he ho hq
 subst he
 obtain ⟨hq1, hq2, -, -⟩ := hq
 obtain ⟨p8, c8, rfl, -, -⟩ := hq2.len
 have r0 : w7.cell? ⟨qb, 0, none⟩ = some (.slice p8 lx.length c8) := by simp [World.cell?, hq1]
 have bz := (((W6.out.2.trans hk).block w.heap.size (lt_of_block W2.out.2.1) W2.out.2.2.2.1).trans W2.out.2.1)
 obtain ⟨⟨z0, z1, z2, z3, z4⟩, ⟨y0, y1, y2, y3, y4⟩⟩ := blk5 bz
 have W7 := Lib.hid (And.intro (W2.out.1.then (W6.out.2.trans hk) (fun i hi e => by have := W2.out.2.2.2.2; omega)) ho.sees)
 have HQ := Lib.hid (And.intro H.out.1 (And.intro W7.out.1.size (fun k hk e => by have := (ho.block k hk).1; have := W6.out.2.size; have := lt_of_block W2.out.2.1; omega : ∀ k, (Value.slice p7 n7 c7).ownBlock = some k → k ≠ w.heap.size)))
 clear hq1 hq2 bz ho hk W6 W2 H
 by_cases h0 : ea = 0
 rotate_left
 ·have d0 : ((ea : Int) != 0) = true := by simp; omega
  go_wp2_with fail
  refine bodyPost_ret (v := .tuple #[.agg #[.int .u64 0, .int .u64 0, .int .u64 0, .int .u64 0, .slice none 0 0], .int .i64 5]) (by simp [results, Try.results31, go_sem, z0, z1, z2, z3, z4]) rfl ?_
  have e := HQ.out.1
  rw [if_pos (by simp [h0])] at e
  exact ⟨⟨0, 0, 0, 0, .slice none 0 0, []⟩, by rw [← e]; rfl, by rw [← e]; rfl, Sees.nil _, W7.out.1.then (five _ _ _ _ _ _ _) (fun i hi e => by omega)⟩
 subst h0
 by_cases h1 : eb = 0
 rotate_left
 ·have d1 : ((eb : Int) != 0) = true := by simp; omega
  go_wp2_with fail
  refine bodyPost_ret (v := .tuple #[.agg #[.int .u64 0, .int .u64 0, .int .u64 0, .int .u64 0, .slice none 0 0], .int .i64 5]) (by simp [results, Try.results31, go_sem, z0, z1, z2, z3, z4]) rfl ?_
  have e := HQ.out.1
  rw [if_pos (by simp [h1])] at e
  exact ⟨⟨0, 0, 0, 0, .slice none 0 0, []⟩, by rw [← e]; rfl, by rw [← e]; rfl, Sees.nil _, W7.out.1.then (five _ _ _ _ _ _ _) (fun i hi e => by omega)⟩
 subst h1
 by_cases h2 : ec = 0
 rotate_left
 ·have d2 : ((ec : Int) != 0) = true := by simp; omega
  go_wp2_with fail
  refine bodyPost_ret (v := .tuple #[.agg #[.int .u64 0, .int .u64 0, .int .u64 0, .int .u64 0, .slice none 0 0], .int .i64 5]) (by simp [results, Try.results31, go_sem, z0, z1, z2, z3, z4]) rfl ?_
  have e := HQ.out.1
  rw [if_pos (by simp [h2])] at e
  exact ⟨⟨0, 0, 0, 0, .slice none 0 0, []⟩, by rw [← e]; rfl, by rw [← e]; rfl, Sees.nil _, W7.out.1.then (five _ _ _ _ _ _ _) (fun i hi e => by omega)⟩
 subst h2
 by_cases h3 : ed = 0
 rotate_left
 ·have d3 : ((ed : Int) != 0) = true := by simp; omega
  go_wp2_with fail
  refine bodyPost_ret (v := .tuple #[.agg #[.int .u64 0, .int .u64 0, .int .u64 0, .int .u64 0, .slice none 0 0], .int .i64 5]) (by simp [results, Try.results31, go_sem, z0, z1, z2, z3, z4]) rfl ?_
  have e := HQ.out.1
  rw [if_pos (by simp [h3])] at e
  exact ⟨⟨0, 0, 0, 0, .slice none 0 0, []⟩, by rw [← e]; rfl, by rw [← e]; rfl, Sees.nil _, W7.out.1.then (five _ _ _ _ _ _ _) (fun i hi e => by omega)⟩
 subst h3
 by_cases h4 : ex = 0
 rotate_left
 ·have d4 : ((ex : Int) != 0) = true := by simp; omega
  go_wp2_with fail
  refine bodyPost_ret (v := .tuple #[.agg #[.int .u64 0, .int .u64 0, .int .u64 0, .int .u64 0, .slice none 0 0], .int .i64 5]) (by simp [results, Try.results31, go_sem, z0, z1, z2, z3, z4]) rfl ?_
  have e := HQ.out.1
  rw [if_pos (by simp [h4])] at e
  exact ⟨⟨0, 0, 0, 0, .slice none 0 0, []⟩, by rw [← e]; rfl, by rw [← e]; rfl, Sees.nil _, W7.out.1.then (five _ _ _ _ _ _ _) (fun i hi e => by omega)⟩
 subst h4
 by_cases h5 : lx = []
 rotate_left
 ·have hp : 0 < lx.length := List.length_pos_iff.2 h5
  go_wp2_with fail
  refine bodyPost_ret (v := .tuple #[.agg #[.int .u64 0, .int .u64 0, .int .u64 0, .int .u64 0, .slice none 0 0], .int .i64 5]) (by simp [results, Try.results31, go_sem, z0, z1, z2, z3, z4]) rfl ?_
  have e := HQ.out.1
  rw [if_pos (by simp [h5])] at e
  exact ⟨⟨0, 0, 0, 0, .slice none 0 0, []⟩, by rw [← e]; rfl, by rw [← e]; rfl, Sees.nil _, W7.out.1.then (five _ _ _ _ _ _ _) (fun i hi e => by omega)⟩
 subst h5
 go_wp2_with fail
 refine bodyPost_ret (v := .tuple #[.agg #[.int .u64 (a : Int), .int .u64 (b : Int), .int .u64 (c : Int), .int .u64 (d : Int), .slice p7 n7 c7], .int .i64 0]) (by simp [results, Try.results31, go_sem, z0, z1, z2, z3, z4]) rfl ?_
 have e := HQ.out.1
 rw [if_neg (by simp)] at e
 exact ⟨⟨a, b, c, d, .slice p7 n7 c7, x⟩, by rw [← e]; rfl, by rw [← e]; rfl, (W7.out.2.keeps (five _ _ _ _ _ _ _) (fun k hk e => (HQ.out.2.2 k hk) e)), W7.out.1.then (five _ _ _ _ _ _ _) (fun i hi e => by omega)⟩
theorem Rd.kept {w w' : World} {B rb bb : Nat} {l : List UInt8} {S : Nat → Prop} (h : Rd w B rb bb l) (hk : Keeps S w w') (hrb : rb < B) (hS : ∀ k, k < B → ¬ S k) : Rd w' B rb bb l := by
 obtain ⟨h0, v, h1, h2, h3, h4, h5⟩ := h
 exact ⟨Nat.le_trans h0 hk.size, v, (hk.block rb (by omega) (hS rb hrb)).trans h1, h2.keeps hk (fun k hk' => hS k (h4 k hk').2), h3, h4, h5⟩
theorem nums_none {k m : Nat} {l : List UInt8} (h : nums k l = none) (hk : k ≤ m) : nums m l = none := by
 induction m with
 | zero =>
  obtain rfl : k = 0 := by omega
  exact h
 | succ m ih =>
  by_cases e : k = m + 1
  ·subst e; exact h
  ·simp only [nums, ih (by omega)]
def sw (k n x : Nat) (j : Nat) : Nat := if j = k then n else x
theorem nums_next {k : Nat} {l r r' : List UInt8} {x0 x1 x2 x3 n : Nat} (hk : k < 4) (h : nums k l = some ([x0, x1, x2, x3].take k, r)) (hr : readNum r 18446744073709551615 = (n, 0, r')) :
  nums (k + 1) l = some ([sw k n x0 0, sw k n x1 1, sw k n x2 2, sw k n x3 3].take (k + 1), r') := by
 simp only [nums, h, hr, if_true]
 rcases k with _ | _ | _ | _ | k
 ·rfl
 ·rfl
 ·rfl
 ·rfl
 ·omega
theorem nums_bad {k : Nat} {l r : List UInt8} {ns : List Nat} {n e : Nat} {r' : List UInt8} (h : nums k l = some (ns, r)) (hk : k < 4) (hr : readNum r 18446744073709551615 = (n, e, r')) (he : e ≠ 0) : parP l = (pk0, 5) := by
 have : nums (k + 1) l = none := by simp only [nums, h, hr, if_neg he]
 unfold parP
 rw [nums_none this (by omega)]
theorem row_set {w : World} {g k n x0 x1 x2 x3 : Nat} {t : TypeId} (hk : k < 4) (h : w.heap[g]? = some (.cells #[.int .u64 (x0 : Int), .int .u64 (x1 : Int), .int .u64 (x2 : Int), .int .u64 (x3 : Int)] t (0, 0))) :
  (w.setCell ⟨g, k, none⟩ (.int .u64 (n : Int))).heap[g]? = some (.cells #[.int .u64 (sw k n x0 0 : Nat), .int .u64 (sw k n x1 1 : Nat), .int .u64 (sw k n x2 2 : Nat), .int .u64 (sw k n x3 3 : Nat)] t (0, 0)) := by
 have := heap_setCell_same w g k _ _ (.int .u64 (n : Int)) h
 rw [this]
 rcases k with _ | _ | _ | _ | k
 ·rfl
 ·rfl
 ·rfl
 ·rfl
 ·omega
theorem row_at {w : World} {g k x0 x1 x2 x3 : Nat} {t : TypeId} (hk : k < 4) (h : w.heap[g]? = some (.cells #[.int .u64 (x0 : Int), .int .u64 (x1 : Int), .int .u64 (x2 : Int), .int .u64 (x3 : Int)] t (0, 0))) : (∃ u, w.cell? ⟨g, k, none⟩ = some u) ∧ w.frozen? ⟨g, k, none⟩ = false := by
 refine ⟨?_, by simp [World.frozen?, h]⟩
 rcases k with _ | _ | _ | _ | k
 ·exact ⟨_, by simp [World.cell?, h]; rfl⟩
 ·exact ⟨_, by simp [World.cell?, h]; rfl⟩
 ·exact ⟨_, by simp [World.cell?, h]; rfl⟩
 ·exact ⟨_, by simp [World.cell?, h]; rfl⟩
 ·omega
set_option maxRecDepth 100000 in
set_option maxHeartbeats 1000000 in
theorem parse_any (v : Value) (l : List UInt8) (w : World) (hs : Sees w v l) (hl : l.length ≤ 100000000) : Calls Try.prog 30 #[v] w (ParPost w l) := by
 obtain ⟨w1, hw1⟩ : ∃ w1, w.alloc (.cells #[.int .u64 0, .int .u64 0, .int .u64 0, .int .u64 0, .slice none 0 0] 37) = w1 := ⟨_, rfl⟩
 have o1 : Old w w1 := by rw [← hw1]; exact (Keeps.refl _ _).alloc _
 have b1 : w1.heap[w.heap.size]? = some (.cells #[.int .u64 0, .int .u64 0, .int .u64 0, .int .u64 0, .slice none 0 0] 37 (0, 0)) := by rw [← hw1]; exact heap_alloc_new _ _
 have W1 := Lib.hid (And.intro o1 (And.intro b1 (hs.old o1)))
 have H := Lib.hid hl
 clear hl hs o1 b1
 go_enter Try.func30, Try.ntmps30
 go_wp2_with fail
 refine (new_any v l w1 W1.out.2.2 (by have := H.out; omega)).mono ?_
 rintro e w2 ⟨rb, bb, rfl, hR, hrb, hbb, hk⟩
 obtain ⟨w3, hw3⟩ : ∃ w3, w2.alloc (.cells #[.int .u64 0, .int .u64 0, .int .u64 0, .int .u64 0] 102) = w3 := ⟨_, rfl⟩
 obtain ⟨ab, hab⟩ : ∃ ab, w2.heap.size = ab := ⟨_, rfl⟩
 have o3 : Old w2 w3 := by rw [← hw3]; exact (Keeps.refl _ _).alloc _
 have b3 : w3.heap[ab]? = some (.cells #[.int .u64 (0 : Nat), .int .u64 (0 : Nat), .int .u64 (0 : Nat), .int .u64 (0 : Nat)] 102 (0, 0)) := by rw [← hw3, ← hab]; exact heap_alloc_new _ _
 have hrb2 : rb < ab := by
  obtain ⟨_, _, h1, _⟩ := hR
  have := lt_of_block h1
  omega
 rw [hab] at hR
 have hR3 : Rd w3 ab rb bb l := hR.kept o3 hrb2 (fun _ _ f => f)
 have hz1 : w.heap.size < w1.heap.size := lt_of_block W1.out.2.1
 have W3 := Lib.hid (And.intro (W1.out.1.trans (hk.trans o3)) (And.intro (((hk.trans o3).block _ hz1 (fun f => f)).trans W1.out.2.1) (And.intro hR3 (And.intro b3 (And.intro hrb2 (And.intro hrb hz1))))))
 clear hR hR3 b3 o3 hk hrb hbb hz1 W1
 go_wp2_with fail
 clear hw3 hab
 go_loopg [13] 4 (fun n v13 wm => ∃ k r x0 x1 x2 x3, k ≤ 4 ∧ n = 4 - k ∧ v13 = .int .i64 (k : Nat) ∧ nums k l = some ([x0, x1, x2, x3].take k, r) ∧
  wm.heap[ab]? = some (.cells #[.int .u64 (x0 : Nat), .int .u64 (x1 : Nat), .int .u64 (x2 : Nat), .int .u64 (x3 : Nat)] 102 (0, 0)) ∧ Rd wm ab rb bb r ∧ Keeps (fun i => i = rb ∨ i = ab) w3 wm)
 case atStart => exact ⟨0, l, 0, 0, 0, 0, by omega, rfl, rfl, rfl, W3.out.2.2.2.1, W3.out.2.2.1, Keeps.refl _ _⟩
 case round =>
  obtain ⟨k, r, x0, x1, x2, x3, hk4, rfl, rfl, hn, hb, hR, hkr⟩ := hrel
  by_cases hlt : k < 4
  ·have b1 : (k : Int) < 4 := by omega
   obtain ⟨n, en, r', hr⟩ : ∃ a e r', readNum r 18446744073709551615 = (a, e, r') := ⟨_, _, _, rfl⟩
   have HH := Lib.hid (And.intro hn (And.intro hb (And.intro hR (And.intro hkr hr))))
   clear hn hb hR hkr hr
   go_wp2_with fail
   refine (rnum_any ab rb bb r 18446744073709551615 wr HH.out.2.2.1 (by decide)).mono ?_
   rintro e w4 ⟨he, hR, hk⟩
   rw [HH.out.2.2.2.2] at he hR
   subst he
   have hb4 := (hk.block ab (lt_of_block HH.out.2.1) (by have := W3.out.2.2.2.2.1; omega)).trans HH.out.2.1
   have k4 := HH.out.2.2.2.1.trans (hk.weaken (T := fun i => i = rb ∨ i = ab) (fun _ _ h => .inl h))
   have bz := (k4.block w.heap.size (lt_of_block W3.out.2.1) (by have := W3.out.2.2.2.2; omega)).trans W3.out.2.1
   by_cases h0 : en = 0
   ·subst h0
    obtain ⟨⟨u, hu⟩, hf⟩ := row_at hlt hb4
    have W4 := Lib.hid (And.intro hR (And.intro hb4 k4))
    clear hR hb4 k4 hk bz
    go_wp2_with fail
    go_roundg (4 - (k + 1))
    case measure => omega
    case rel =>
     refine ⟨k + 1, r', _, _, _, _, by omega, rfl, by go_num, nums_next hlt HH.out.1 HH.out.2.2.2.2, row_set hlt W4.out.2.1, ?_, ?_⟩
     ·exact W4.out.1.kept ((Keeps.refl (fun i => i = ab) _).setCell (fun _ => rfl) _) W3.out.2.2.2.2.1 (fun k hk e => by omega)
     ·exact W4.out.2.2.setCell (fun _ => .inr rfl) _
   ·have d1 : ((en : Int) != 0) = true := by simp; omega
    obtain ⟨⟨z0, z1, z2, z3, z4⟩, ⟨y0, y1, y2, y3, y4⟩⟩ := blk5 bz
    have W4 := Lib.hid k4
    clear hR hb4 k4 hk bz
    go_wp2_with fail
    refine bodyPost_ret (v := .tuple #[.agg #[.int .u64 0, .int .u64 0, .int .u64 0, .int .u64 0, .slice none 0 0], .int .i64 5]) (by simp [results, Try.results30, go_sem, z0, z1, z2, z3, z4]) rfl ?_
    have e := nums_bad HH.out.1 hlt HH.out.2.2.2.2 h0
    refine ⟨⟨0, 0, 0, 0, .slice none 0 0, []⟩, by rw [e]; rfl, by rw [e]; rfl, Sees.nil _, ?_⟩
    have ho := W3.out.1.then W4.out (fun i hi e => by have := W3.out.2.2.2.2; omega)
    exact ho.then (five _ _ _ _ _ _ _) (fun i hi e => by omega)
  ·obtain rfl : k = 4 := by omega
   have hp : parP l = parR x0 x1 x2 x3 r := by unfold parP; rw [hn]; rfl
   obtain ⟨x, ex, r2, hX⟩ : ∃ a e r2, readBytes r 9223372036854775807 = (a, e, r2) := ⟨_, _, _, rfl⟩
   have HP := Lib.hid hp
   have HH := Lib.hid (And.intro hb (And.intro hR hkr))
   clear hn hb hR hkr hp
   go_wp2_with fail
   refine (rbytes_any ab rb bb r 9223372036854775807 wr HH.out.2.1 (by decide)).mono ?_
   rintro e w4 ⟨q4, n4, e4, he, ho, hR, hk⟩
   rw [hX] at he ho hR
   subst he
   have hb4 := (hk.block ab (lt_of_block HH.out.1) (by have := W3.out.2.2.2.2.1; omega)).trans HH.out.1
   have k4 := HH.out.2.2.trans (hk.weaken (T := fun i => i = rb ∨ i = ab) (fun _ _ h => .inl h))
   have bz := (k4.block w.heap.size (lt_of_block W3.out.2.1) (by have := W3.out.2.2.2.2; omega)).trans W3.out.2.1
   obtain ⟨⟨z0, z1, z2, z3, z4⟩, ⟨y0, y1, y2, y3, y4⟩⟩ := blk5 bz
   have a0 : w4.cell? ⟨ab, 0, none⟩ = some (.int .u64 (x0 : Int)) := by simp [World.cell?, hb4]
   have a1 : w4.cell? ⟨ab, 1, none⟩ = some (.int .u64 (x1 : Int)) := by simp [World.cell?, hb4]
   have a2 : w4.cell? ⟨ab, 2, none⟩ = some (.int .u64 (x2 : Int)) := by simp [World.cell?, hb4]
   have a3 : w4.cell? ⟨ab, 3, none⟩ = some (.int .u64 (x3 : Int)) := by simp [World.cell?, hb4]
   have WO := Lib.hid (And.intro hR (And.intro (W3.out.1.then k4 (fun i hi e => by have := W3.out.2.2.2.2; omega)) (And.intro ho.sees (fun k hk' e => by have := (ho.block k hk').1; have := HH.out.2.2.size; have := lt_of_block W3.out.2.1; omega : ∀ k, (Value.slice q4 n4 e4).ownBlock = some k → k ≠ w.heap.size))))
   clear hR hb4 k4 hk bz ho HH
   by_cases h0 : ex = 0
   ·subst h0
    go_wp2_with fail
    refine (end_any ab rb bb r2 w4 WO.out.1).mono ?_
    rintro e w5 ⟨rfl, rfl⟩
    by_cases h1 : r2 = []
    ·rw [if_pos h1]
     go_wp2_with fail
     refine bodyPost_ret (v := .tuple #[.agg #[.int .u64 (x0 : Int), .int .u64 (x1 : Int), .int .u64 (x2 : Int), .int .u64 (x3 : Int), .slice q4 n4 e4], .int .i64 0]) (by simp [results, Try.results30, go_sem, z0, z1, z2, z3, z4]) rfl ?_
     have e := HP.out
     rw [parR, hX, if_pos ⟨rfl, h1⟩] at e
     exact ⟨⟨x0, x1, x2, x3, .slice q4 n4 e4, x⟩, by rw [e]; rfl, by rw [e]; rfl, WO.out.2.2.1.keeps (five _ _ _ _ _ _ _) WO.out.2.2.2, WO.out.2.1.then (five _ _ _ _ _ _ _) (fun i hi e => by omega)⟩
    ·rw [if_neg h1]
     go_wp2_with fail
     refine bodyPost_ret (v := .tuple #[.agg #[.int .u64 0, .int .u64 0, .int .u64 0, .int .u64 0, .slice none 0 0], .int .i64 5]) (by simp [results, Try.results30, go_sem, z0, z1, z2, z3, z4]) rfl ?_
     have e := HP.out
     rw [parR, hX, if_neg (fun h => h1 h.2)] at e
     exact ⟨⟨0, 0, 0, 0, .slice none 0 0, []⟩, by rw [e]; rfl, by rw [e]; rfl, Sees.nil _, WO.out.2.1.then (five _ _ _ _ _ _ _) (fun i hi e => by omega)⟩
   ·have d1 : ((ex : Int) != 0) = true := by simp; omega
    go_wp2_with fail
    refine bodyPost_ret (v := .tuple #[.agg #[.int .u64 0, .int .u64 0, .int .u64 0, .int .u64 0, .slice none 0 0], .int .i64 5]) (by simp [results, Try.results30, go_sem, z0, z1, z2, z3, z4]) rfl ?_
    have e := HP.out
    rw [parR, hX, if_neg (fun h => h0 h.1)] at e
    exact ⟨⟨0, 0, 0, 0, .slice none 0 0, []⟩, by rw [e]; rfl, by rw [e]; rfl, Sees.nil _, WO.out.2.1.then (five _ _ _ _ _ _ _) (fun i hi e => by omega)⟩
end Go.Proofs.Ytllnlimbfoingaa
