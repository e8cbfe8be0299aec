/- DERIVED. Chapter 25: Copy and Next of a queue. -/
import Derived.Test.YtiednihagnehlaaY22
import Derived.Deep.DeepCutAuto
namespace Go.Proofs.Ytiednihagnehlaa
open Go.RowKit

theorem copy_no (v : Value) (w : World) (h : Calls Try.prog 28 #[v] w fun e w' => e = .returned (.bool true) ∧ w = w') : Calls Try.prog 12 #[v] w fun e w' => e = .returned (.pointer none) ∧ w = w' := by
 have C := Lib.hid h
 clear h
 go_enter Try.func12, Try.ntmps12
 go_wp2_with fail
 refine C.out.mono ?_
 rintro e w' ⟨rfl, rfl⟩
 go_wp2_with fail
 go_ret
 exact ⟨rfl, rfl⟩

set_option maxRecDepth 100000 in
theorem copy_q {R S : Nat → Prop} {w : World} {qb most : Nat} {P : List (Int × PMs)} (h : QuP R S w qb most P) (hm : 1 ≤ most) (hl : P.length ≤ 100000) :
  Calls Try.prog 12 #[.pointer (some ⟨qb, 0, none⟩)] w fun e w' => ∃ (q2 : Nat) (R2 : Nat → Prop), e = .returned (.pointer (some ⟨q2, 0, none⟩)) ∧ (∀ k, R2 k → w.heap.size ≤ k) ∧ QuP R2 (fun k => S k ∨ R2 k) w' q2 most P ∧ QuP R (fun k => S k ∨ R2 k) w' qb most P ∧ Old w w' := by
 obtain ⟨L, hL, h⟩ := h
 have hone := h.one
 have hlL : L.length ≤ 100000 := by rw [← hL] at hl; simpa using hl
 have h0 := h
 obtain ⟨p, n, c, h1, h2, h3, h4, h5, h6, h7⟩ := h
 obtain ⟨p', c', e, hle, hmx⟩ := (h2.sees Qy.len (by decide)).len
 simp only [Value.slice.injEq] at e
 obtain ⟨rfl, rfl, rfl⟩ := e
 obtain ⟨g0, g1, g2, g3⟩ := blkQu h1
 have C := Lib.hid (none_yes qb most w g0 hm)
 have D := Lib.hid (clone_q _ L w.drew (h2.sees Qy.len (by decide)) hone hlL)
 have H := Lib.hid (And.intro h0 (And.intro h3 (And.intro h6 h7)))
 clear h0 h1 h2 h3 h4 h5 h6 h7 hone hle hmx hlL
 go_enter Try.func12, Try.ntmps12
 go_wp2_with fail
 refine C.out.mono ?_
 rintro e w' ⟨rfl, rfl⟩
 go_wp2_with fail
 refine wp_region_g (S := fun W => W.cell? ⟨qb, 0, none⟩ = some (.int .i64 (most : Int)) ∧ W.cell? ⟨qb, 1, none⟩ = some (.slice p L.length c)) (M := [0, 1, 2, 3, 4, 5, 6, 7, 8, 9, 10, 11]) (by kernel_rfl) ?_
 have hS : w.drew.cell? ⟨qb, 0, none⟩ = some (.int .i64 (most : Int)) ∧ w.drew.cell? ⟨qb, 1, none⟩ = some (.slice p L.length c) := ⟨g0, g1⟩
 refine wpAnyG_takeL (i := 0) (oi := _) (v := ?va0) rfl (by kernel_rfl) (by kernel_rfl) (by kernel_rfl) (by kernel_rfl) (fun _ _ _ h => h) (Or.inl ⟨by rfl, ?ya0⟩) hS ?ra0
 case ya0 => (intro W hSw; go_simp; try with_reducible rfl)
 try simp only [Act.put, List.setIfInBounds_toArray, List.set_cons_zero, List.set_cons_succ]
 refine wpAnyG_takeL (i := 1) (oi := _) (v := ?va1) rfl (by kernel_rfl) (by kernel_rfl) (by kernel_rfl) (by kernel_rfl) (fun _ _ _ h => h) (Or.inl ⟨by rfl, ?ya1⟩) hS ?ra1
 case ya1 => (intro W hSw; go_simp; try with_reducible rfl)
 try simp only [Act.put, List.setIfInBounds_toArray, List.set_cons_zero, List.set_cons_succ]
 refine wpAnyG_takeL (i := 2) (oi := _) (v := ?va2) rfl (by kernel_rfl) (by kernel_rfl) (by kernel_rfl) (by kernel_rfl) (fun _ _ _ h => h) (Or.inl ⟨by rfl, ?ya2⟩) hS ?ra2
 case ya2 => (intro W hSw; go_simp; try with_reducible rfl)
 try simp only [Act.put, List.setIfInBounds_toArray, List.set_cons_zero, List.set_cons_succ]
 refine wpAnyG_takeL (i := 3) (oi := _) (v := ?va3) rfl (by kernel_rfl) (by kernel_rfl) (by kernel_rfl) (by kernel_rfl) (fun _ _ _ h => h) (Or.inl ⟨by rfl, ?ya3⟩) hS ?ra3
 case ya3 => (intro W hSw; obtain ⟨y1, y2⟩ := hSw; go_simp; try with_reducible rfl)
 try simp only [Act.put, List.setIfInBounds_toArray, List.set_cons_zero, List.set_cons_succ]
 refine wpAnyG_takeL (i := 4) (oi := _) (v := ?va4) rfl (by kernel_rfl) (by kernel_rfl) (by kernel_rfl) (by kernel_rfl) (fun _ _ _ h => h) (Or.inl ⟨by rfl, ?ya4⟩) hS ?ra4
 case ya4 => (intro W hSw; go_simp; try with_reducible rfl)
 try simp only [Act.put, List.setIfInBounds_toArray, List.set_cons_zero, List.set_cons_succ]
 refine wpAnyG_takeL (i := 5) (oi := _) (v := ?va5) rfl (by kernel_rfl) (by kernel_rfl) (by kernel_rfl) (by kernel_rfl) (fun _ _ _ h => h) (Or.inl ⟨by rfl, ?ya5⟩) hS ?ra5
 case ya5 => (intro W hSw; go_simp; try with_reducible rfl)
 try simp only [Act.put, List.setIfInBounds_toArray, List.set_cons_zero, List.set_cons_succ]
 refine wpAnyG_takeL (i := 6) (oi := _) (v := ?va6) rfl (by kernel_rfl) (by kernel_rfl) (by kernel_rfl) (by kernel_rfl) (fun _ _ _ h => h) (Or.inl ⟨by rfl, ?ya6⟩) hS ?ra6
 case ya6 => (intro W hSw; go_simp; try with_reducible rfl)
 try simp only [Act.put, List.setIfInBounds_toArray, List.set_cons_zero, List.set_cons_succ]
 refine wpAnyG_takeL (i := 7) (oi := _) (v := ?va7) rfl (by kernel_rfl) (by kernel_rfl) (by kernel_rfl) (by kernel_rfl) (fun _ _ _ h => h) (Or.inl ⟨by rfl, ?ya7⟩) hS ?ra7
 case ya7 => (intro W hSw; obtain ⟨y1, y2⟩ := hSw; go_simp; try with_reducible rfl)
 try simp only [Act.put, List.setIfInBounds_toArray, List.set_cons_zero, List.set_cons_succ]
 refine wpAnyG_onlyL (i := 8) (o := _) (by kernel_rfl) rfl (fun K hK => ?_)
 go_simp
 refine D.out.mono ?_
 rintro e w1 ⟨p1, n1, c1, rfl, o1, k1⟩
 have hS1 : w1.cell? ⟨qb, 0, none⟩ = some (.int .i64 (most : Int)) ∧ w1.cell? ⟨qb, 1, none⟩ = some (.slice p L.length c) := ⟨k1.cell hS.1 (fun f => f), k1.cell hS.2 (fun f => f)⟩
 have K1 := Lib.hid (And.intro o1 k1)
 clear o1 k1
 go_wp2_with fail
 refine hK.out _ _ (fun _ => hS1) ?_
 clear hK K
 try simp only [Act.put, List.setIfInBounds_toArray, List.set_cons_zero, List.set_cons_succ]
 refine wpAnyG_takeL (i := 9) (oi := _) (v := ?va9) rfl (by kernel_rfl) (by kernel_rfl) (by kernel_rfl) (by kernel_rfl) (fun _ _ _ h => h) (Or.inl ⟨by rfl, ?ya9⟩) hS1 ?ra9
 case ya9 => (intro W hSw; go_simp; try with_reducible rfl)
 try simp only [Act.put, List.setIfInBounds_toArray, List.set_cons_zero, List.set_cons_succ]
 refine wpAnyG_onlyL (i := 10) (o := _) (by kernel_rfl) rfl (fun K hK => ?_)
 go_simp
 have hS2 : (w1.alloc (.cells #[.int .i64 (most : Int), .slice p1 n1 c1] 82)).cell? ⟨qb, 0, none⟩ = some (.int .i64 (most : Int)) ∧ (w1.alloc (.cells #[.int .i64 (most : Int), .slice p1 n1 c1] 82)).cell? ⟨qb, 1, none⟩ = some (.slice p L.length c) := ⟨((Keeps.refl (fun _ => False) w1).alloc _).cell hS1.1 (fun f => f), ((Keeps.refl (fun _ => False) w1).alloc _).cell hS1.2 (fun f => f)⟩
 refine hK.out _ _ (fun _ => hS2) ?_
 clear hK K
 try simp only [Act.put, List.setIfInBounds_toArray, List.set_cons_zero, List.set_cons_succ]
 refine wpAnyG_takeL (i := 11) (oi := _) (v := ?va11) rfl (by kernel_rfl) (by kernel_rfl) (by kernel_rfl) (by kernel_rfl) (fun _ _ _ h => h) (Or.inl ⟨by rfl, ?ya11⟩) hS2 ?ra11
 case ya11 => (intro W hSw; go_simp; try with_reducible rfl)
 try simp only [Act.put, List.setIfInBounds_toArray, List.set_cons_zero, List.set_cons_succ]
 refine wpAnyG_done (by kernel_rfl) ?_ _
 go_simp
 go_wp2_with fail
 go_ret
 have kd : Old w w1 := ((Keeps.refl (fun _ => False) w).drew).trans K1.out.2
 have ka : Old w1 (w1.alloc (.cells #[.int .i64 (most : Int), .slice p1 n1 c1] 82)) := (Keeps.refl _ _).alloc _
 have kk := kd.trans ka
 have hb := K1.out.1.block
 have hsz : w.heap.size ≤ w1.heap.size := kd.size
 have hR2 : ∀ k, (k = w1.heap.size ∨ (Value.slice p1 n1 c1).ownBlock = some k) → w.heap.size ≤ k := by
  rintro k (rfl | hk)
  ·exact hsz
  ·exact (hb k hk).1
 have hz : ∀ k, (S k ∨ (k = w1.heap.size ∨ (Value.slice p1 n1 c1).ownBlock = some k)) → k < (w1.alloc (.cells #[.int .i64 (most : Int), .slice p1 n1 c1] 82)).heap.size := by
  rintro k (hk | rfl | hk)
  ·exact Nat.lt_of_lt_of_le (H.out.2.2.2 k hk) kk.size
  ·simp
  ·have := (hb k hk).2
   simp
   omega
 have hx : ∀ k, (S k ∨ (k = w1.heap.size ∨ (Value.slice p1 n1 c1).ownBlock = some k)) → S k ∨ w.heap.size ≤ k := fun k hk => by
  rcases hk with hk | hk
  ·exact .inl hk
  ·exact .inr (hR2 k hk)
 refine ⟨w1.heap.size, fun k => k = w1.heap.size ∨ (Value.slice p1 n1 c1).ownBlock = some k, rfl, hR2, ⟨L, hL, p1, n1, c1, heap_alloc_new _ _, (K1.out.1.old ka).mono (Nat.zero_le _), fun x hx' => ?_, .inl rfl, fun b hb' => ⟨.inr hb', ?_⟩, fun k hk => .inr hk, hz⟩, ⟨L, hL, ?_⟩, kk⟩
 ·exact ((H.out.2.1 x hx').ext hx).old kk
 ·have := (hb b hb').2; omega
 ·exact H.out.1.other (R1 := fun _ => False) kk (fun _ f => f.elim) (fun _ _ f => f) (fun k hk => .inl hk) hx hz

attribute [-go_sem] loadVar storeVar
/-- no query waits, or there is no queue -/
def NextNo (w : World) (e : Ending) (w' : World) : Prop := e = .returned (.tuple #[.int .i64 0, .agg zeroMs.cells.toArray, .bool false]) ∧ Old w w'
set_option maxRecDepth 100000 in
theorem next_empty {R S : Nat → Prop} {w : World} {qb most : Nat} (h : QuP R S w qb most []) (hm : 1 ≤ most) : Calls Try.prog 14 #[.pointer (some ⟨qb, 0, none⟩)] w (NextNo w) := by
 obtain ⟨L, hL, h⟩ := h
 obtain rfl : L = [] := List.map_eq_nil_iff.1 hL
 obtain ⟨p, n, c, h1, h2, _⟩ := h
 obtain ⟨p', c', e, _, _⟩ := (h2.sees Qy.len (by decide)).len
 simp only [Value.slice.injEq] at e
 obtain ⟨rfl, rfl, rfl⟩ := e
 obtain ⟨Wa, hWa⟩ : ∃ W, w.alloc (.cells zeroMs.cells.toArray 43) = W := ⟨_, rfl⟩
 have ba : MAt Wa w.heap.size zeroMs := by rw [← hWa]; exact heap_alloc_new _ _
 have oa : Old w Wa := by rw [← hWa]; exact (Keeps.refl _ _).alloc _
 obtain ⟨W2, hst, b2, kb⟩ := store_msg ba zeroMs (MsO.zero w 0).one
 have o2 : Old w W2 := oa.then kb (fun i hi e => by omega)
 have gl := load_msg b2 rfl
 change (storeVar 43 ⟨w.heap.size, 0, none⟩ (.agg #[.int .i64 0, .int .i64 0, .int .u64 0, .bool false, .slice none 0 0, .int .u64 0, .int .u64 0, .string ⟨#[]⟩, .slice none 0 0, .int .i64 0, .int .u64 0, .int .u64 0, .int .u64 0, .int .u64 0, .int .u64 0, .slice none 0 0, .slice none 0 0, .bool false])).run Try.prog Wa = .ok () W2 at hst
 change w.alloc (.cells #[.int .i64 0, .int .i64 0, .int .u64 0, .bool false, .slice none 0 0, .int .u64 0, .int .u64 0, .string ⟨#[]⟩, .slice none 0 0, .int .i64 0, .int .u64 0, .int .u64 0, .int .u64 0, .int .u64 0, .int .u64 0, .slice none 0 0, .slice none 0 0, .bool false] 43) = Wa at hWa
 obtain ⟨g0, g1, _⟩ := blkQu ((oa.block qb (lt_of_heap h1) (fun f => f)).trans h1)
 have C := Lib.hid (none_yes qb most Wa g0 hm)
 have q1 : ∀ a W, (loadVar 80 a).run Try.prog W = (load a).run Try.prog W := fun _ _ => by kernel_rfl
 have K := Lib.hid (And.intro o2 gl)
 clear h1 h2 hL ba oa b2 kb o2 gl g0
 go_enter Try.func14, Try.ntmps14
 go_wp2_with fail
 refine C.out.mono ?_
 rintro e w' ⟨rfl, rfl⟩
 go_wp2_with fail
 have gl := K.out.2
 refine bodyPost_ret (v := .tuple #[.int .i64 0, .agg zeroMs.cells.toArray, .bool false]) ?_ rfl ⟨rfl, K.out.1⟩
 simp [results, Try.results14, go_sem, gl]
set_option maxRecDepth 100000 in
theorem next_no (v : Value) (w : World) (h : ∀ W, Old w W → Calls Try.prog 28 #[v] W fun e w' => e = .returned (.bool true) ∧ W = w') : Calls Try.prog 14 #[v] w (NextNo w) := by
 obtain ⟨Wa, hWa⟩ : ∃ W, w.alloc (.cells zeroMs.cells.toArray 43) = W := ⟨_, rfl⟩
 have ba : MAt Wa w.heap.size zeroMs := by rw [← hWa]; exact heap_alloc_new _ _
 have oa : Old w Wa := by rw [← hWa]; exact (Keeps.refl _ _).alloc _
 obtain ⟨W2, hst, b2, kb⟩ := store_msg ba zeroMs (MsO.zero w 0).one
 have o2 : Old w W2 := oa.then kb (fun i hi e => by omega)
 have gl := load_msg b2 rfl
 change (storeVar 43 ⟨w.heap.size, 0, none⟩ (.agg #[.int .i64 0, .int .i64 0, .int .u64 0, .bool false, .slice none 0 0, .int .u64 0, .int .u64 0, .string ⟨#[]⟩, .slice none 0 0, .int .i64 0, .int .u64 0, .int .u64 0, .int .u64 0, .int .u64 0, .int .u64 0, .slice none 0 0, .slice none 0 0, .bool false])).run Try.prog Wa = .ok () W2 at hst
 change w.alloc (.cells #[.int .i64 0, .int .i64 0, .int .u64 0, .bool false, .slice none 0 0, .int .u64 0, .int .u64 0, .string ⟨#[]⟩, .slice none 0 0, .int .i64 0, .int .u64 0, .int .u64 0, .int .u64 0, .int .u64 0, .int .u64 0, .slice none 0 0, .slice none 0 0, .bool false] 43) = Wa at hWa
 have C := Lib.hid (h Wa oa)
 have K := Lib.hid (And.intro o2 gl)
 clear h ba oa b2 kb o2 gl
 go_enter Try.func14, Try.ntmps14
 go_wp2_with fail
 refine C.out.mono ?_
 rintro e w' ⟨rfl, rfl⟩
 go_wp2_with fail
 have gl := K.out.2
 refine bodyPost_ret (v := .tuple #[.int .i64 0, .agg zeroMs.cells.toArray, .bool false]) ?_ rfl ⟨rfl, K.out.1⟩
 simp [results, Try.results14, go_sem, gl]

theorem load_qm {w : World} {b : Nat} {x : Qy} {t : TypeId} (h : w.heap[b]? = some (.cells x.cells.toArray t (0, 0))) : (loadVar 43 ⟨b, 1, none⟩).run Try.prog w = .ok (.agg x.m.cells.toArray) w :=
 load_sub (cs := x.m.cells.toArray) (fun j v hv => by
  have hv' : x.m.cells[j]? = some v := by simpa using hv
  have : x.cells.toArray[1 + j]? = some v := by simpa [Qy.cells, Nat.add_comm 1 j] using hv'
  simp only [World.cell?]
  rw [h]
  simpa using this) Try.underlying43 rfl (by simp only [List.size_toArray]; show _ = some 18; kernel_rfl)
/-- the first that waits is told -/
def NextYes (R S : Nat → Prop) (w : World) (qb most : Nat) (x : Int × PMs) (P : List (Int × PMs)) (e : Ending) (w' : World) : Prop :=
 ∃ m : Ms, e = .returned (.tuple #[.int .i64 x.1, .agg m.cells.toArray, .bool true]) ∧ m.plain = x.2 ∧ Steady S w' m ∧ QuP R S w' qb most P ∧ Keeps R w w'
set_option maxRecDepth 100000 in
set_option maxHeartbeats 1000000 in
theorem next_some {R S : Nat → Prop} {w : World} {qb most : Nat} {x : Int × PMs} {P : List (Int × PMs)} (h : QuP R S w qb most (x :: P)) (hm : 1 ≤ most) : Calls Try.prog 14 #[.pointer (some ⟨qb, 0, none⟩)] w (NextYes R S w qb most x P) := by
 obtain ⟨L, hL, h⟩ := h
 obtain ⟨y, L, rfl, rfl, rfl⟩ : ∃ y L', L = y :: L' ∧ y.plain = x ∧ L'.map Qy.plain = P := by
  cases L with
  | nil => cases hL
  | cons y L => simp at hL; exact ⟨y, L, rfl, hL.1, hL.2⟩
 have hone := h.one
 obtain ⟨p, n, c, h1, h2, h3, h4, h5, h6, h7⟩ := h
 obtain ⟨b, o, c', e, hle, hmx, hcell⟩ := (h2.sees Qy.len (by decide)).at (by simp)
 simp only [Value.slice.injEq] at e
 obtain ⟨rfl, rfl, rfl⟩ := e
 obtain ⟨n, hn⟩ : ∃ n, (y :: L).length = n := ⟨_, rfl⟩
 have hn1 : n = L.length + 1 := by rw [← hn]; rfl
 rw [hn] at h1 h2 hle h5
 have hnm : n ≤ 9223372036854775807 := by unfold maxLen at hmx; omega
 have dn : (((n : Nat) : Int) == 0) = false := by simp; omega
 have dn' : 0 < n := by omega
 -- the result's block
 obtain ⟨Wa, hWa⟩ : ∃ W, w.alloc (.cells zeroMs.cells.toArray 43) = W := ⟨_, rfl⟩
 have ba : MAt Wa w.heap.size zeroMs := by rw [← hWa]; exact heap_alloc_new _ _
 have oa : Old w Wa := by rw [← hWa]; exact (Keeps.refl _ _).alloc _
 have sa : Wa.heap.size = w.heap.size + 1 := by rw [← hWa]; simp
 -- the query's
 obtain ⟨Wb, hWb⟩ : ∃ W, Wa.alloc (.cells zeroQ.cells.toArray 87) = W := ⟨_, rfl⟩
 have bb : QAt Wb Wa.heap.size zeroQ := by rw [← hWb]; exact heap_alloc_new _ _
 have ob : Old Wa Wb := by rw [← hWb]; exact (Keeps.refl _ _).alloc _
 obtain ⟨W2, hst, b2, kb⟩ := store_q bb y (one_arr (hone y (by simp)))
 have o2 : Old Wa W2 := ob.then kb (fun i hi e => by omega)
 rw [sa] at hst b2
 have lq := load_q (w := Wa) (b := b) (o := o) (x := y) (fun i u hu => by
  have := oa.cell (hcell 0 y rfl i u hu) (fun f => f)
  simpa using this)
 change w.alloc (.cells #[.int .i64 0, .int .i64 0, .int .u64 0, .bool false, .slice none 0 0, .int .u64 0, .int .u64 0, .string ⟨#[]⟩, .slice none 0 0, .int .i64 0, .int .u64 0, .int .u64 0, .int .u64 0, .int .u64 0, .int .u64 0, .slice none 0 0, .slice none 0 0, .bool false] 43) = Wa at hWa
 change Wa.alloc (.cells #[.int .i64 0, .int .i64 0, .int .i64 0, .int .u64 0, .bool false, .slice none 0 0, .int .u64 0, .int .u64 0, .string ⟨#[]⟩, .slice none 0 0, .int .i64 0, .int .u64 0, .int .u64 0, .int .u64 0, .int .u64 0, .int .u64 0, .slice none 0 0, .slice none 0 0, .bool false] 87) = Wb at hWb
 have hqa := (oa.block qb (lt_of_heap h1) (fun f => f)).trans h1
 have hq2 := (o2.block qb (lt_of_heap hqa) (fun f => f)).trans hqa
 obtain ⟨g0, g1, _⟩ := blkQu hqa
 obtain ⟨f0, f1, _⟩ := blkQu hq2
 have C := Lib.hid (none_yes qb most Wa g0 hm)
 have oo : Old w W2 := oa.trans o2
 have D := Lib.hid (delete0_q _ y L 0 W2 (h2.old oo) (fun z hz => hone z (by simp [hz])))
 have q1 : ∀ a W, (loadVar 80 a).run Try.prog W = (load a).run Try.prog W := fun _ _ => by kernel_rfl
 have q2 : ∀ a W, (loadVar 3 a).run Try.prog W = (load a).run Try.prog W := fun _ _ => by kernel_rfl
 have H := Lib.hid (And.intro h3 (And.intro h4 (And.intro h5 (And.intro h6 (And.intro h7 (And.intro oo (And.intro (o2.block _ (lt_of_heap ba) (fun f => f) |>.trans ba) (And.intro b2 hq2))))))))
 have HN := Lib.hid hn1
 have h_lt : qb < w.heap.size := lt_of_heap h1
 have HO := Lib.hid (hone y (by simp))
 clear h1 h2 h3 h4 h5 h6 h7 hone hle hmx hcell ba oa bb ob b2 kb o2 hqa hq2 g0 oo hL hn hn1
 go_enter Try.func14, Try.ntmps14
 go_wp2_with fail
 refine C.out.mono ?_
 rintro e w' ⟨rfl, rfl⟩
 go_wp2_with fail
 refine D.out.mono ?_
 rintro e w3 ⟨p1, n1, c1, rfl, o3, b3, k3⟩
 obtain ⟨p', c', e, _, _⟩ := (o3.sees Qy.len (by decide)).len
 simp only [Value.slice.injEq] at e
 obtain ⟨rfl, rfl, rfl⟩ := e
 have hS : ∀ b', (Value.slice (some ⟨b, o, none⟩) n c).ownBlock = some b' → b' < w.heap.size := fun b' hb => H.out.2.2.2.2.1 _ (H.out.2.2.2.1 _ (H.out.2.2.1 b' hb).1)
 have nq : ¬ (Value.slice (some ⟨b, o, none⟩) n c).ownBlock = some qb := fun e => (H.out.2.2.1 qb e).2 rfl
 have nr : ∀ k, w.heap.size ≤ k → ¬ (Value.slice (some ⟨b, o, none⟩) n c).ownBlock = some k := fun k hk e => by have := hS k e; omega
 have hq3 := (k3.block qb (lt_of_heap H.out.2.2.2.2.2.2.2.2) nq).trans H.out.2.2.2.2.2.2.2.2
 have hr3 := (k3.block _ (lt_of_heap H.out.2.2.2.2.2.2.1) (nr _ (Nat.le_refl _))).trans H.out.2.2.2.2.2.2.1
 have hx3 := (k3.block _ (lt_of_heap H.out.2.2.2.2.2.2.2.1) (nr _ (by omega))).trans H.out.2.2.2.2.2.2.2.1
 obtain ⟨W4, hst4, hq4, k4⟩ := store_cell (o := 1) (ty := 80) hq3 (.slice p1 L.length c1) rfl (by simp) (by kernel_rfl) rfl rfl
 have K3 := Lib.hid (And.intro o3 (And.intro b3 (And.intro k3 (And.intro hq4 k4))))
 have X4 := Lib.hid (And.intro ((k4.block _ (lt_of_heap hr3) (fun e => by have := h_lt; omega)).trans hr3) ((k4.block _ (lt_of_heap hx3) (fun e => by have := h_lt; omega)).trans hx3))
 clear o3 b3 k3 hq4 k4 hS nq nr hq3 hr3 hx3 f0 f1 lq hst
 have hx5 : W4.drew.heap[w.heap.size + 1]? = some (.cells y.cells.toArray 87 (0, 0)) := X4.out.2
 have hmone : y.m.cells.toArray.all (·.oneCell') = true := by
  rw [Array.all_eq_true_iff_forall_mem]
  intro u hu
  exact HO.out u (List.mem_cons_of_mem _ (by simpa using hu))
 obtain ⟨W5, hst5, hr5, k5⟩ := store_msg (w := W4.drew) (mb := w.heap.size) X4.out.1 y.m hmone
 have gl := load_msg hr5 (by simp [Ms.cells])
 have S5 := Lib.hid (And.intro k5 gl)
 clear hr5 k5 gl hmone
 go_wp2_with fail
 refine wp_region_g (S := fun W => W.heap[w.heap.size + 1]? = some (.cells y.cells.toArray 87 (0, 0))) (M := [0, 1, 2, 3, 4, 5, 6]) (by kernel_rfl) ?_
 refine wpAnyG_takeL (i := 0) (oi := _) (v := ?va0) rfl (by kernel_rfl) (by kernel_rfl) (by kernel_rfl) (by kernel_rfl) (fun _ _ _ h => h) (Or.inl ⟨by rfl, ?ya0⟩) hx5 ?ra0
 case ya0 => (intro W hSw; go_simp; try with_reducible rfl)
 try simp only [Act.put, List.setIfInBounds_toArray, List.set_cons_zero, List.set_cons_succ]
 refine wpAnyG_takeL (i := 1) (oi := _) (v := ?va1) rfl (by kernel_rfl) (by kernel_rfl) (by kernel_rfl) (by kernel_rfl) (fun _ _ _ h => h) (Or.inl ⟨by rfl, ?ya1⟩) hx5 ?ra1
 case ya1 => (intro W hSw; have y1 := (qat_cells hSw).1; go_simp; try with_reducible rfl)
 try simp only [Act.put, List.setIfInBounds_toArray, List.set_cons_zero, List.set_cons_succ]
 refine wpAnyG_takeL (i := 2) (oi := _) (v := ?va2) rfl (by kernel_rfl) (by kernel_rfl) (by kernel_rfl) (by kernel_rfl) (fun _ _ _ h => h) (Or.inl ⟨by rfl, ?ya2⟩) hx5 ?ra2
 case ya2 => (intro W hSw; go_simp; try with_reducible rfl)
 try simp only [Act.put, List.setIfInBounds_toArray, List.set_cons_zero, List.set_cons_succ]
 refine wpAnyG_takeL (i := 3) (oi := _) (v := ?va3) rfl (by kernel_rfl) (by kernel_rfl) (by kernel_rfl) (by kernel_rfl) (fun _ _ _ h => h) (Or.inl ⟨by rfl, ?ya3⟩) hx5 ?ra3
 case ya3 => (intro W hSw; have y1 := load_qm hSw; go_simp; try with_reducible rfl)
 try simp only [Act.put, List.setIfInBounds_toArray, List.set_cons_zero, List.set_cons_succ]
 refine wpAnyG_takeL (i := 4) (oi := _) (v := ?va4) rfl (by kernel_rfl) (by kernel_rfl) (by kernel_rfl) (by kernel_rfl) (fun _ _ _ h => h) (Or.inl ⟨by rfl, ?ya4⟩) hx5 ?ra4
 case ya4 => (intro W hSw; go_simp; try with_reducible rfl)
 try simp only [Act.put, List.setIfInBounds_toArray, List.set_cons_zero, List.set_cons_succ]
 refine wpAnyG_onlyL (i := 5) (o := _) (by kernel_rfl) rfl (fun K hK => ?_)
 go_simp
 refine hK.out _ _ (fun _ => (S5.out.1.block _ (lt_of_heap X4.out.2) (by omega)).trans X4.out.2) ?_
 clear hK K
 try simp only [Act.put, List.setIfInBounds_toArray, List.set_cons_zero, List.set_cons_succ]
 refine wpAnyG_onlyL (i := 6) (o := _) (by kernel_rfl) rfl (fun K hK => ?_)
 go_simp
 refine hK.out _ _ (fun _ => (S5.out.1.block _ (lt_of_heap X4.out.2) (by omega)).trans X4.out.2) ?_
 clear hK K
 try simp only [Act.put, List.setIfInBounds_toArray, List.set_cons_zero, List.set_cons_succ]
 refine wpAnyG_done (by kernel_rfl) ?_ _
 go_simp
 go_wp2_with fail
 have gl := S5.out.2
 refine bodyPost_ret (v := .tuple #[.int .i64 y.link, .agg y.m.cells.toArray, .bool true]) ?_ rfl ?_
 ·simp [results, Try.results14, go_sem, gl]
 ·have k5 : Keeps (fun k => k = w.heap.size) W4 W5 := (Keeps.refl _ W4).drew.trans S5.out.1
  have own_lt : ∀ b', (Value.slice (some ⟨b, o, none⟩) n c).ownBlock = some b' → b' < w.heap.size := fun b' hb => H.out.2.2.2.2.1 _ (H.out.2.2.2.1 _ (H.out.2.2.1 b' hb).1)
  have kR3 : Keeps R w w3 := (H.out.2.2.2.2.2.1.weaken (fun _ _ f => f.elim)).trans (K3.out.2.2.1.weaken (fun i _ hi => (H.out.2.2.1 i hi).1))
  have kR4 : Keeps R w W4 := kR3.trans (K3.out.2.2.2.2.weaken (fun i _ e => by subst e; exact H.out.2.1))
  have kR5 : Keeps R w W5 := kR4.then k5 (fun i hi e => by omega)
  have hqb := (k5.block qb (by have := kR4.size; omega) (by omega)).trans K3.out.2.2.2.1
  refine ⟨y.m, rfl, rfl, (H.out.1 y (by simp)).to (kR5.weaken (fun i _ hi => H.out.2.2.2.1 i hi)), ⟨L, rfl, p1, L.length, c1, by simpa using hqb, ?_, fun z hz => (H.out.1 z (by simp [hz])).to (kR5.weaken (fun i _ hi => H.out.2.2.2.1 i hi)), H.out.2.1, fun b' hb => ?_, H.out.2.2.2.1, fun k hk => Nat.lt_of_lt_of_le (H.out.2.2.2.2.1 k hk) kR5.size⟩, kR5⟩
  ·refine (K3.out.1.keeps K3.out.2.2.2.2 (fun b' hb e => ?_)).keeps k5 (fun b' hb e => ?_)
   ·rw [K3.out.2.1] at hb
    exact (H.out.2.2.1 b' hb).2 e
   ·rw [K3.out.2.1] at hb
    have := own_lt b' hb
    omega
  ·rw [K3.out.2.1] at hb
   exact H.out.2.2.1 b' hb
end Go.Proofs.Ytiednihagnehlaa
