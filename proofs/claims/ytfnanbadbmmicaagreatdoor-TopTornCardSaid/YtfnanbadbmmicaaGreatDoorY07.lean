/- DERIVED. The contract of codec's reader: value. · DERIVED. The contract of codec.times. · DERIVED. A region that draws its order: loads are taken first where nobody but operations that wait for them writes their cells. Plain theorems over any program. -/
import Derived.Test.YtfnanbadbmmicaaGreatDoorY06
import Derived.Test.YtfnanbadbmmicaaGreatDoorY01
import Derived.Deep.RegionHeld3
namespace Go.Proofs.YtfnanbadbmmicaaGreatDoor
open Go.RowKit

theorem blk1 {w : World} {b : Nat} {t : TypeId} {a0 : Value} (h : w.heap[b]? = some (.cells #[a0] t (0, 0))) : w.cell? ⟨b, 0, none⟩ = some a0 ∧ w.frozen? ⟨b, 0, none⟩ = false := by simp [World.cell?, World.frozen?, h]
theorem blk4 {w : World} {b : Nat} {t : TypeId} {a0 a1 a2 a3 : Value} (h : w.heap[b]? = some (.cells #[a0, a1, a2, a3] t (0, 0))) :
  (w.cell? ⟨b, 0, none⟩ = some a0 ∧ w.cell? ⟨b, 1, none⟩ = some a1 ∧ w.cell? ⟨b, 2, none⟩ = some a2 ∧ w.cell? ⟨b, 3, none⟩ = some a3) ∧
  (w.frozen? ⟨b, 0, none⟩ = false ∧ w.frozen? ⟨b, 1, none⟩ = false ∧ w.frozen? ⟨b, 2, none⟩ = false ∧ w.frozen? ⟨b, 3, none⟩ = false) := by simp [World.cell?, World.frozen?, h]

theorem pVal_cases {l r : List UInt8} {v : Val} (h : pVal l = some (v, r)) : ∃ k r1, pNum 3 l = some (k, r1) ∧
  ((k = 1 ∧ ∃ n, pInt r1 = some (n, r) ∧ v = ⟨1, n, ⟨#[]⟩, false⟩) ∨ (k = 2 ∧ ∃ s, pText 32 r1 = some (s, r) ∧ v = ⟨2, 0, s, false⟩) ∨ (k = 3 ∧ ∃ n, pNum 1 r1 = some (n, r) ∧ v = ⟨3, 0, ⟨#[]⟩, n == 1⟩) ∨ (k = 0 ∧ r = r1 ∧ v = ⟨0, 0, ⟨#[]⟩, false⟩)) := by
 unfold pVal at h
 cases hk : pNum 3 l with
 | none => rw [hk] at h; cases h
 | some x =>
  obtain ⟨k, r1⟩ := x
  have hb := (pNum_inv hk).2.1
  rw [hk] at h
  simp only [Option.bind_some] at h
  refine ⟨k, r1, rfl, ?_⟩
  by_cases h1 : k = 1
  ·rw [if_pos h1] at h
   cases hi : pInt r1 with
   | none => rw [hi] at h; cases h
   | some y =>
    rw [hi] at h
    simp only [Option.map_some, Option.some.injEq, Prod.mk.injEq] at h
    exact .inl ⟨h1, y.1, by rw [← h.2], h.1.symm⟩
  ·rw [if_neg h1] at h
   by_cases h2 : k = 2
   ·rw [if_pos h2] at h
    cases hi : pText 32 r1 with
    | none => rw [hi] at h; cases h
    | some y =>
     rw [hi] at h
     simp only [Option.map_some, Option.some.injEq, Prod.mk.injEq] at h
     exact .inr (.inl ⟨h2, y.1, by rw [← h.2], h.1.symm⟩)
   ·rw [if_neg h2] at h
    by_cases h3 : k = 3
    ·rw [if_pos h3] at h
     cases hi : pNum 1 r1 with
     | none => rw [hi] at h; cases h
     | some y =>
      rw [hi] at h
      simp only [Option.map_some, Option.some.injEq, Prod.mk.injEq] at h
      exact .inr (.inr (.inl ⟨h3, y.1, by rw [← h.2], h.1.symm⟩))
    ·rw [if_neg h3] at h
     simp only [Option.some.injEq, Prod.mk.injEq] at h
     obtain rfl : k = 0 := by omega
     exact .inr (.inr (.inr ⟨rfl, h.2.symm, h.1.symm⟩))
theorem pVal_nones {l : List UInt8} (h : pVal l = none) : pNum 3 l = none ∨ ∃ k r1, pNum 3 l = some (k, r1) ∧ ((k = 1 ∧ pInt r1 = none) ∨ (k = 2 ∧ pText 32 r1 = none) ∨ (k = 3 ∧ pNum 1 r1 = none)) := by
 unfold pVal at h
 cases hk : pNum 3 l with
 | none => exact .inl rfl
 | some x =>
  obtain ⟨k, r1⟩ := x
  rw [hk] at h
  simp only [Option.bind_some] at h
  refine .inr ⟨k, r1, rfl, ?_⟩
  by_cases h1 : k = 1
  ·rw [if_pos h1] at h
   exact .inl ⟨h1, by simpa using h⟩
  ·rw [if_neg h1] at h
   by_cases h2 : k = 2
   ·rw [if_pos h2] at h
    exact .inr (.inl ⟨h2, by simpa using h⟩)
   ·rw [if_neg h2] at h
    by_cases h3 : k = 3
    ·rw [if_pos h3] at h
     exact .inr (.inr ⟨h3, by simpa using h⟩)
    ·rw [if_neg h3] at h; cases h

theorem cint_any (B rb bb : Nat) (l : List UInt8) (w : World) (h : Rd w B rb bb l) :
  Calls Tryz.prog 119 #[.pointer (some ⟨rb, 0, none⟩)] w fun e w' => e = .returned (.tuple #[.int .i64 (readInt l).1, .int .i64 (readInt l).2.1]) ∧ (Rd w' B rb bb (readInt l).2.2 ∧ RK rb w w') :=
 (rint_any B rb bb l w h).mono fun _e _w' h => ⟨h.1, h.2.1, h.2.2⟩
theorem pInt_some {l r : List UInt8} {n : Int} (h : pInt l = some (n, r)) : readInt l = (n, 0, r) := by
 unfold pInt at h
 split at h
 ·rename_i h0
  simp only [Option.some.injEq, Prod.mk.injEq] at h
  rw [← h.1, ← h.2]
  exact Prod.ext rfl (Prod.ext h0 rfl)
 ·cases h
theorem pInt_none {l : List UInt8} (h : pInt l = none) : (readInt l).2.1 ≠ 0 := by
 unfold pInt at h; split at h
 ·cases h
 ·assumption

theorem Rd.far {w w' : World} {B rb bb : Nat} {l : List UInt8} {S : Nat → Prop} (h : Rd w B rb bb l) (hk : Keeps S w w') (hS : ∀ k, S k → B ≤ k ∧ k ≠ rb) : Rd w' B rb bb l := by
 obtain ⟨h0, v, h1, h2, h3, h4, h5⟩ := h
 have hrb := lt_of_block h1
 refine ⟨Nat.le_trans h0 hk.size, v, (hk.block rb hrb (fun s => (hS rb s).2 rfl)).trans h1, h2.keeps hk (fun k hk' s => ?_), h3, h4, h5⟩
 have := (h4 k hk').2
 have := (hS k s).1
 omega
theorem Rd.base {w : World} {B rb bb : Nat} {l : List UInt8} (h : Rd w B rb bb l) : B ≤ w.heap.size := h.1
/-- stores into blocks of the call's own behind a read -/
theorem rd_close {w w2 W : World} {B rb bb : Nat} {r : List UInt8} (h : Rd w2 B rb bb r) (hk : RK rb w w2) (hB : B ≤ w.heap.size) (hrb : rb < w.heap.size) (kk : Keeps (fun k => w.heap.size ≤ k) w2 W) : Rd W B rb bb r ∧ RK rb w W :=
 ⟨h.far kk (fun k hk => ⟨by omega, by omega⟩), hk.then kk (fun i hi h => by omega)⟩

set_option maxRecDepth 100000 in
set_option maxHeartbeats 2000000 in
theorem cval_yes (B rb bb : Nat) (v : Val) (l r : List UInt8) (w : World) (h : Rd w B rb bb l) (hp : pVal l = some (v, r)) :
  Calls Tryz.prog 100 #[rdV rb] w fun e w' => e = .returned (.agg v.cells) ∧ (Rd w' B rb bb r ∧ RK rb w w') := by
 obtain ⟨k, r1, hk, hc⟩ := pVal_cases hp
 have hrb := h.lt
 have hbase := h.base
 obtain ⟨W0, hW0⟩ : ∃ W0, (w.alloc (.cells #[.pointer (some ⟨rb, 0, none⟩)] 98)).alloc (.cells #[.int .i64 0, .int .i64 0, .string ⟨#[]⟩, .bool false] 100) = W0 := ⟨_, rfl⟩
 have k0 : Old w W0 := by rw [← hW0]; exact ((Keeps.refl _ _).alloc _).alloc _
 have hb := two_blocks w (.cells #[.pointer (some ⟨rb, 0, none⟩)] 98) (.cells #[.int .i64 0, .int .i64 0, .string ⟨#[]⟩, .bool false] 100)
 rw [hW0] at hb
 have kk : RK rb w W0 := k0.weaken (fun _ _ f => f.elim)
 have hR0 := h.old k0
 have HN := Lib.hid (cnum_yes B rb bb 3 k l r1 W0 hR0 (by decide) hk)
 have HB := Lib.hid hb
 have HK := Lib.hid kk
 have f0 := (blk1 hb.1).1
 clear hb kk h k0 hR0
 have hne : rb ≠ w.heap.size := by omega
 have hne' : rb ≠ w.heap.size + 1 := by omega
 clear hp hk
 rcases hc with ⟨rfl, n, hq, rfl⟩ | ⟨rfl, s, hq, rfl⟩ | ⟨rfl, n, hq, rfl⟩ | ⟨rfl, rfl, rfl⟩
 ·go_enter Tryz.func100, Tryz.ntmps100
  go_wp2_with fail
  refine HN.out.mono ?_
  rintro e w1 ⟨rfl, h1, h2⟩
  have b0 := (h2.block _ (lt_of_heap HB.out.1) (by omega)).trans HB.out.1
  have b1 := (h2.block _ (lt_of_heap HB.out.2) (by omega)).trans HB.out.2
  have hk1 := HK.out.trans h2
  have f1 := (blk1 b0).1
  have hrb1 := h1.lt
  have hne1 : rb ≠ w1.heap.size := by omega
  have hlt0 := lt_of_heap b0
  have hlt1 := lt_of_heap b1
  obtain ⟨W1, hW1⟩ : ∃ W1, w1.alloc (.cells #[.int .i64 1, .int .i64 0, .string ⟨#[]⟩, .bool false] 100) = W1 := ⟨_, rfl⟩
  have b2 : W1.heap[w1.heap.size]? = some (.cells #[.int .i64 1, .int .i64 0, .string ⟨#[]⟩, .bool false] 100 (0, 0)) := by rw [← hW1]; exact heap_alloc_new _ _
  have o1 : Old w1 W1 := by rw [← hW1]; exact (Keeps.refl _ _).alloc _
  have b0' := (o1.block _ hlt0 (fun f => f)).trans b0
  have b1' := (o1.block _ hlt1 (fun f => f)).trans b1
  have f2 := (blk1 b0').1
  have hk2 : RK rb w W1 := hk1.then o1 (fun _ _ f => f.elim)
  have hR := h1.old o1
  have HI := Lib.hid (cint_any B rb bb r1 W1 hR)
  have G := Lib.hid (And.intro b0' (And.intro b1' (And.intro b2 hk2)))
  have HW1 := Lib.hid hW1
  have HQ := Lib.hid (pInt_some hq)
  clear h1 h2 b0 b1 hk1 b2 o1 b0' b1' hk2 hR HN hq hW1
  go_wp2_with fail
  rw [HW1.out]
  refine HI.out.mono ?_
  rintro e w2 ⟨rfl, h3, h4⟩
  rw [HQ.out] at h3 ⊢
  have c0 := (h4.block _ (lt_of_heap G.out.1) (by omega)).trans G.out.1
  have c1 := (h4.block _ (lt_of_heap G.out.2.1) (by omega)).trans G.out.2.1
  have c2 := (h4.block _ (lt_of_heap G.out.2.2.1) (by omega)).trans G.out.2.2.1
  have f4 := (blk1 c0).1
  have f5 := blk4 c1
  have f6 := blk4 c2
  have H := Lib.hid (And.intro h3 (And.intro (G.out.2.2.2.trans h4) (And.intro c1 c2)))
  clear h3 h4 c0 c1 c2
  go_wp2_with (first | (go_at_call 96; refine (must_ok _).mono ?_; rintro e w3 ⟨rfl, rfl⟩))
  refine bodyPost_ret (v := .agg #[.int .i64 1, .int .i64 n, .string ⟨#[]⟩, .bool false]) (by simp [results, Tryz.results100, go_sem, f5]) rfl ⟨rfl, rd_close H.out.1 H.out.2.1 hbase hrb ?_⟩
  repeat (first | exact Keeps.refl _ _ | refine Keeps.setCell ?_ (fun _ => by dsimp only; omega) _)
 ·go_enter Tryz.func100, Tryz.ntmps100
  go_wp2_with fail
  refine HN.out.mono ?_
  rintro e w1 ⟨rfl, h1, h2⟩
  have b0 := (h2.block _ (lt_of_heap HB.out.1) (by omega)).trans HB.out.1
  have b1 := (h2.block _ (lt_of_heap HB.out.2) (by omega)).trans HB.out.2
  have hk1 := HK.out.trans h2
  have f1 := (blk1 b0).1
  have hrb1 := h1.lt
  have hne1 : rb ≠ w1.heap.size := by omega
  have hlt0 := lt_of_heap b0
  have hlt1 := lt_of_heap b1
  obtain ⟨W1, hW1⟩ : ∃ W1, w1.alloc (.cells #[.int .i64 2, .int .i64 0, .string ⟨#[]⟩, .bool false] 100) = W1 := ⟨_, rfl⟩
  have b2 : W1.heap[w1.heap.size]? = some (.cells #[.int .i64 2, .int .i64 0, .string ⟨#[]⟩, .bool false] 100 (0, 0)) := by rw [← hW1]; exact heap_alloc_new _ _
  have o1 : Old w1 W1 := by rw [← hW1]; exact (Keeps.refl _ _).alloc _
  have b0' := (o1.block _ hlt0 (fun f => f)).trans b0
  have b1' := (o1.block _ hlt1 (fun f => f)).trans b1
  have f2 := (blk1 b0').1
  have hk2 : RK rb w W1 := hk1.then o1 (fun _ _ f => f.elim)
  have hR := h1.old o1
  have HI := Lib.hid (ctext_yes B rb bb 32 s r1 r W1 hR (by decide) hq)
  have G := Lib.hid (And.intro b0' (And.intro b1' (And.intro b2 hk2)))
  have HW1 := Lib.hid hW1
  clear h1 h2 b0 b1 hk1 b2 o1 b0' b1' hk2 hR HN hq hW1
  go_wp2_with fail
  rw [HW1.out]
  refine HI.out.mono ?_
  rintro e w2 ⟨rfl, h3, h4⟩
  have c0 := (h4.block _ (lt_of_heap G.out.1) (by omega)).trans G.out.1
  have c1 := (h4.block _ (lt_of_heap G.out.2.1) (by omega)).trans G.out.2.1
  have c2 := (h4.block _ (lt_of_heap G.out.2.2.1) (by omega)).trans G.out.2.2.1
  have f4 := (blk1 c0).1
  have f5 := blk4 c1
  have f6 := blk4 c2
  have H := Lib.hid (And.intro h3 (And.intro (G.out.2.2.2.trans h4) (And.intro c1 c2)))
  clear h3 h4 c0 c1 c2
  go_wp2_with fail
  refine bodyPost_ret (v := .agg #[.int .i64 2, .int .i64 0, .string s, .bool false]) (by simp [results, Tryz.results100, go_sem, f5]) rfl ⟨rfl, rd_close H.out.1 H.out.2.1 hbase hrb ?_⟩
  repeat (first | exact Keeps.refl _ _ | refine Keeps.setCell ?_ (fun _ => by dsimp only; omega) _)
 ·have hn : n = 0 ∨ n = 1 := by have := (pNum_inv hq).2.1; omega
  rcases hn with rfl | rfl
  ·go_enter Tryz.func100, Tryz.ntmps100
   go_wp2_with fail
   refine HN.out.mono ?_
   rintro e w1 ⟨rfl, h1, h2⟩
   have b0 := (h2.block _ (lt_of_heap HB.out.1) (by omega)).trans HB.out.1
   have b1 := (h2.block _ (lt_of_heap HB.out.2) (by omega)).trans HB.out.2
   have hk1 := HK.out.trans h2
   have f1 := (blk1 b0).1
   have hrb1 := h1.lt
   have hne1 : rb ≠ w1.heap.size := by omega
   have hlt0 := lt_of_heap b0
   have hlt1 := lt_of_heap b1
   obtain ⟨W1, hW1⟩ : ∃ W1, w1.alloc (.cells #[.int .i64 3, .int .i64 0, .string ⟨#[]⟩, .bool false] 100) = W1 := ⟨_, rfl⟩
   have b2 : W1.heap[w1.heap.size]? = some (.cells #[.int .i64 3, .int .i64 0, .string ⟨#[]⟩, .bool false] 100 (0, 0)) := by rw [← hW1]; exact heap_alloc_new _ _
   have o1 : Old w1 W1 := by rw [← hW1]; exact (Keeps.refl _ _).alloc _
   have b0' := (o1.block _ hlt0 (fun f => f)).trans b0
   have b1' := (o1.block _ hlt1 (fun f => f)).trans b1
   have f2 := (blk1 b0').1
   have hk2 : RK rb w W1 := hk1.then o1 (fun _ _ f => f.elim)
   have hR := h1.old o1
   have HI := Lib.hid (cnum_yes B rb bb 1 0 r1 r W1 hR (by decide) hq)
   have G := Lib.hid (And.intro b0' (And.intro b1' (And.intro b2 hk2)))
   have HW1 := Lib.hid hW1
   clear h1 h2 b0 b1 hk1 b2 o1 b0' b1' hk2 hR HN hq hW1
   go_wp2_with fail
   rw [HW1.out]
   refine HI.out.mono ?_
   rintro e w2 ⟨rfl, h3, h4⟩
   have c0 := (h4.block _ (lt_of_heap G.out.1) (by omega)).trans G.out.1
   have c1 := (h4.block _ (lt_of_heap G.out.2.1) (by omega)).trans G.out.2.1
   have c2 := (h4.block _ (lt_of_heap G.out.2.2.1) (by omega)).trans G.out.2.2.1
   have f4 := (blk1 c0).1
   have f5 := blk4 c1
   have f6 := blk4 c2
   have H := Lib.hid (And.intro h3 (And.intro (G.out.2.2.2.trans h4) (And.intro c1 c2)))
   clear h3 h4 c0 c1 c2
   go_wp2_with fail
   refine bodyPost_ret (v := .agg #[.int .i64 3, .int .i64 0, .string ⟨#[]⟩, .bool false]) (by simp [results, Tryz.results100, go_sem, f5]) rfl ⟨rfl, rd_close H.out.1 H.out.2.1 hbase hrb ?_⟩
   repeat (first | exact Keeps.refl _ _ | refine Keeps.setCell ?_ (fun _ => by dsimp only; omega) _)
  ·go_enter Tryz.func100, Tryz.ntmps100
   go_wp2_with fail
   refine HN.out.mono ?_
   rintro e w1 ⟨rfl, h1, h2⟩
   have b0 := (h2.block _ (lt_of_heap HB.out.1) (by omega)).trans HB.out.1
   have b1 := (h2.block _ (lt_of_heap HB.out.2) (by omega)).trans HB.out.2
   have hk1 := HK.out.trans h2
   have f1 := (blk1 b0).1
   have hrb1 := h1.lt
   have hne1 : rb ≠ w1.heap.size := by omega
   have hlt0 := lt_of_heap b0
   have hlt1 := lt_of_heap b1
   obtain ⟨W1, hW1⟩ : ∃ W1, w1.alloc (.cells #[.int .i64 3, .int .i64 0, .string ⟨#[]⟩, .bool false] 100) = W1 := ⟨_, rfl⟩
   have b2 : W1.heap[w1.heap.size]? = some (.cells #[.int .i64 3, .int .i64 0, .string ⟨#[]⟩, .bool false] 100 (0, 0)) := by rw [← hW1]; exact heap_alloc_new _ _
   have o1 : Old w1 W1 := by rw [← hW1]; exact (Keeps.refl _ _).alloc _
   have b0' := (o1.block _ hlt0 (fun f => f)).trans b0
   have b1' := (o1.block _ hlt1 (fun f => f)).trans b1
   have f2 := (blk1 b0').1
   have hk2 : RK rb w W1 := hk1.then o1 (fun _ _ f => f.elim)
   have hR := h1.old o1
   have HI := Lib.hid (cnum_yes B rb bb 1 1 r1 r W1 hR (by decide) hq)
   have G := Lib.hid (And.intro b0' (And.intro b1' (And.intro b2 hk2)))
   have HW1 := Lib.hid hW1
   clear h1 h2 b0 b1 hk1 b2 o1 b0' b1' hk2 hR HN hq hW1
   go_wp2_with fail
   rw [HW1.out]
   refine HI.out.mono ?_
   rintro e w2 ⟨rfl, h3, h4⟩
   have c0 := (h4.block _ (lt_of_heap G.out.1) (by omega)).trans G.out.1
   have c1 := (h4.block _ (lt_of_heap G.out.2.1) (by omega)).trans G.out.2.1
   have c2 := (h4.block _ (lt_of_heap G.out.2.2.1) (by omega)).trans G.out.2.2.1
   have f4 := (blk1 c0).1
   have f5 := blk4 c1
   have f6 := blk4 c2
   have H := Lib.hid (And.intro h3 (And.intro (G.out.2.2.2.trans h4) (And.intro c1 c2)))
   clear h3 h4 c0 c1 c2
   go_wp2_with fail
   refine bodyPost_ret (v := .agg #[.int .i64 3, .int .i64 0, .string ⟨#[]⟩, .bool true]) (by simp [results, Tryz.results100, go_sem, f5]) rfl ⟨rfl, rd_close H.out.1 H.out.2.1 hbase hrb ?_⟩
   repeat (first | exact Keeps.refl _ _ | refine Keeps.setCell ?_ (fun _ => by dsimp only; omega) _)
 ·go_enter Tryz.func100, Tryz.ntmps100
  go_wp2_with fail
  refine HN.out.mono ?_
  rintro e w1 ⟨rfl, h1, h2⟩
  have b0 := (h2.block _ (lt_of_heap HB.out.1) (by omega)).trans HB.out.1
  have b1 := (h2.block _ (lt_of_heap HB.out.2) (by omega)).trans HB.out.2
  have hk1 := HK.out.trans h2
  have f1 := (blk1 b0).1
  have hrb1 := h1.lt
  have hne1 : rb ≠ w1.heap.size := by omega
  have hlt0 := lt_of_heap b0
  have hlt1 := lt_of_heap b1
  obtain ⟨W1, hW1⟩ : ∃ W1, w1.alloc (.cells #[.int .i64 0, .int .i64 0, .string ⟨#[]⟩, .bool false] 100) = W1 := ⟨_, rfl⟩
  have b2 : W1.heap[w1.heap.size]? = some (.cells #[.int .i64 0, .int .i64 0, .string ⟨#[]⟩, .bool false] 100 (0, 0)) := by rw [← hW1]; exact heap_alloc_new _ _
  have o1 : Old w1 W1 := by rw [← hW1]; exact (Keeps.refl _ _).alloc _
  have b0' := (o1.block _ hlt0 (fun f => f)).trans b0
  have b1' := (o1.block _ hlt1 (fun f => f)).trans b1
  have f2 := (blk1 b0').1
  have hk2 : RK rb w W1 := hk1.then o1 (fun _ _ f => f.elim)
  have hR := h1.old o1
  have f5 := blk4 b1'
  have f6 := blk4 b2
  have f7 := blk4 b1
  have H := Lib.hid (And.intro h1 hk1)
  clear h1 h2 b0 b1 hk1 b2 o1 b0' b1' hk2 hR HN hW1 f5 f6
  go_wp2_with fail
  refine bodyPost_ret (v := .agg #[.int .i64 0, .int .i64 0, .string ⟨#[]⟩, .bool false]) (by simp [results, Tryz.results100, go_sem, f7, hlt1]) rfl ⟨rfl, rd_close H.out.1 H.out.2 hbase hrb ?_⟩
  repeat (first | exact Keeps.refl _ _ | refine Keeps.setCell ?_ (fun _ => by dsimp only; omega) _ | refine Keeps.alloc ?_ _)
set_option maxRecDepth 100000 in
set_option maxHeartbeats 2000000 in
theorem cval_no (B rb bb : Nat) (l : List UInt8) (w : World) (h : Rd w B rb bb l) (hp : pVal l = none) :
  Calls Tryz.prog 100 #[rdV rb] w fun e w' => e = .panicked fault ∧ ((∃ r, Rd w' B rb bb r) ∧ RK rb w w') := by
 have hrb := h.lt
 have hbase := h.base
 obtain ⟨W0, hW0⟩ : ∃ W0, (w.alloc (.cells #[.pointer (some ⟨rb, 0, none⟩)] 98)).alloc (.cells #[.int .i64 0, .int .i64 0, .string ⟨#[]⟩, .bool false] 100) = W0 := ⟨_, rfl⟩
 have k0 : Old w W0 := by rw [← hW0]; exact ((Keeps.refl _ _).alloc _).alloc _
 have hb := two_blocks w (.cells #[.pointer (some ⟨rb, 0, none⟩)] 98) (.cells #[.int .i64 0, .int .i64 0, .string ⟨#[]⟩, .bool false] 100)
 rw [hW0] at hb
 have kk : RK rb w W0 := k0.weaken (fun _ _ f => f.elim)
 have hR0 := h.old k0
 rcases pVal_nones hp with hk | ⟨k, r1, hk, hc⟩
 ·have HN := Lib.hid (cnum_no B rb bb 3 l W0 hR0 (by decide) hk)
  have HB := Lib.hid hb
  have HK := Lib.hid kk
  have f0 := (blk1 hb.1).1
  clear hb kk h k0 hR0
  have hne : rb ≠ w.heap.size := by omega
  have hne' : rb ≠ w.heap.size + 1 := by omega
  clear hp hk
  go_enter Tryz.func100, Tryz.ntmps100
  go_wp2_with fail
  refine HN.out.mono ?_
  rintro e w1 ⟨rfl, h1, h2⟩
  have R := Lib.hid (And.intro h1 (HK.out.trans h2))
  clear h1 h2
  go_wp2_with fail
  exact ⟨rfl, rfl, ⟨_, R.out.1⟩, R.out.2⟩
 ·have HN := Lib.hid (cnum_yes B rb bb 3 k l r1 W0 hR0 (by decide) hk)
  have HB := Lib.hid hb
  have HK := Lib.hid kk
  have f0 := (blk1 hb.1).1
  clear hb kk h k0 hR0
  have hne : rb ≠ w.heap.size := by omega
  have hne' : rb ≠ w.heap.size + 1 := by omega
  clear hp hk
  rcases hc with ⟨rfl, hq⟩ | ⟨rfl, hq⟩ | ⟨rfl, hq⟩
  ·have he := pInt_none hq
   have hd : (((readInt r1).2.1 : Int) != 0) = true := by simp; omega
   clear he
   go_enter Tryz.func100, Tryz.ntmps100
   go_wp2_with fail
   refine HN.out.mono ?_
   rintro e w1 ⟨rfl, h1, h2⟩
   have b0 := (h2.block _ (lt_of_heap HB.out.1) (by omega)).trans HB.out.1
   have b1 := (h2.block _ (lt_of_heap HB.out.2) (by omega)).trans HB.out.2
   have hk1 := HK.out.trans h2
   have f1 := (blk1 b0).1
   have hrb1 := h1.lt
   have hne1 : rb ≠ w1.heap.size := by omega
   have hlt0 := lt_of_heap b0
   have hlt1 := lt_of_heap b1
   obtain ⟨W1, hW1⟩ : ∃ W1, w1.alloc (.cells #[.int .i64 1, .int .i64 0, .string ⟨#[]⟩, .bool false] 100) = W1 := ⟨_, rfl⟩
   have b2 : W1.heap[w1.heap.size]? = some (.cells #[.int .i64 1, .int .i64 0, .string ⟨#[]⟩, .bool false] 100 (0, 0)) := by rw [← hW1]; exact heap_alloc_new _ _
   have o1 : Old w1 W1 := by rw [← hW1]; exact (Keeps.refl _ _).alloc _
   have b0' := (o1.block _ hlt0 (fun f => f)).trans b0
   have b1' := (o1.block _ hlt1 (fun f => f)).trans b1
   have f2 := (blk1 b0').1
   have hk2 : RK rb w W1 := hk1.then o1 (fun _ _ f => f.elim)
   have hR := h1.old o1
   have HI := Lib.hid (cint_any B rb bb r1 W1 hR)
   have G := Lib.hid (And.intro b0' (And.intro b1' (And.intro b2 hk2)))
   have HW1 := Lib.hid hW1
   clear h1 h2 b0 b1 hk1 b2 o1 b0' b1' hk2 hR HN hq hW1
   go_wp2_with fail
   rw [HW1.out]
   refine HI.out.mono ?_
   rintro e w2 ⟨rfl, h3, h4⟩
   have c0 := (h4.block _ (lt_of_heap G.out.1) (by omega)).trans G.out.1
   have c1 := (h4.block _ (lt_of_heap G.out.2.1) (by omega)).trans G.out.2.1
   have c2 := (h4.block _ (lt_of_heap G.out.2.2.1) (by omega)).trans G.out.2.2.1
   have f4 := (blk1 c0).1
   have f5 := blk4 c1
   have f6 := blk4 c2
   have H := Lib.hid (And.intro h3 (And.intro (G.out.2.2.2.trans h4) (And.intro c1 c2)))
   clear h3 h4 c0 c1 c2
   go_wp2_with fail
   refine (must_bad _ hd _).mono ?_
   rintro e w3 ⟨rfl, rfl⟩
   go_wp2_with fail
   exact ⟨rfl, rfl, ⟨_, H.out.1⟩, H.out.2.1⟩
  ·go_enter Tryz.func100, Tryz.ntmps100
   go_wp2_with fail
   refine HN.out.mono ?_
   rintro e w1 ⟨rfl, h1, h2⟩
   have b0 := (h2.block _ (lt_of_heap HB.out.1) (by omega)).trans HB.out.1
   have b1 := (h2.block _ (lt_of_heap HB.out.2) (by omega)).trans HB.out.2
   have hk1 := HK.out.trans h2
   have f1 := (blk1 b0).1
   have hrb1 := h1.lt
   have hne1 : rb ≠ w1.heap.size := by omega
   have hlt0 := lt_of_heap b0
   have hlt1 := lt_of_heap b1
   obtain ⟨W1, hW1⟩ : ∃ W1, w1.alloc (.cells #[.int .i64 2, .int .i64 0, .string ⟨#[]⟩, .bool false] 100) = W1 := ⟨_, rfl⟩
   have b2 : W1.heap[w1.heap.size]? = some (.cells #[.int .i64 2, .int .i64 0, .string ⟨#[]⟩, .bool false] 100 (0, 0)) := by rw [← hW1]; exact heap_alloc_new _ _
   have o1 : Old w1 W1 := by rw [← hW1]; exact (Keeps.refl _ _).alloc _
   have b0' := (o1.block _ hlt0 (fun f => f)).trans b0
   have b1' := (o1.block _ hlt1 (fun f => f)).trans b1
   have f2 := (blk1 b0').1
   have hk2 : RK rb w W1 := hk1.then o1 (fun _ _ f => f.elim)
   have hR := h1.old o1
   have HI := Lib.hid (ctext_no B rb bb 32 r1 W1 hR (by decide) hq)
   have G := Lib.hid (And.intro b0' (And.intro b1' (And.intro b2 hk2)))
   have HW1 := Lib.hid hW1
   clear h1 h2 b0 b1 hk1 b2 o1 b0' b1' hk2 hR HN hq hW1
   go_wp2_with fail
   rw [HW1.out]
   refine HI.out.mono ?_
   rintro e w2 ⟨rfl, h3, h4⟩
   have R := Lib.hid (And.intro h3 (G.out.2.2.2.trans h4))
   clear h3 h4
   go_wp2_with fail
   exact ⟨rfl, rfl, R.out.1, R.out.2⟩
  ·go_enter Tryz.func100, Tryz.ntmps100
   go_wp2_with fail
   refine HN.out.mono ?_
   rintro e w1 ⟨rfl, h1, h2⟩
   have b0 := (h2.block _ (lt_of_heap HB.out.1) (by omega)).trans HB.out.1
   have b1 := (h2.block _ (lt_of_heap HB.out.2) (by omega)).trans HB.out.2
   have hk1 := HK.out.trans h2
   have f1 := (blk1 b0).1
   have hrb1 := h1.lt
   have hne1 : rb ≠ w1.heap.size := by omega
   have hlt0 := lt_of_heap b0
   have hlt1 := lt_of_heap b1
   obtain ⟨W1, hW1⟩ : ∃ W1, w1.alloc (.cells #[.int .i64 3, .int .i64 0, .string ⟨#[]⟩, .bool false] 100) = W1 := ⟨_, rfl⟩
   have b2 : W1.heap[w1.heap.size]? = some (.cells #[.int .i64 3, .int .i64 0, .string ⟨#[]⟩, .bool false] 100 (0, 0)) := by rw [← hW1]; exact heap_alloc_new _ _
   have o1 : Old w1 W1 := by rw [← hW1]; exact (Keeps.refl _ _).alloc _
   have b0' := (o1.block _ hlt0 (fun f => f)).trans b0
   have b1' := (o1.block _ hlt1 (fun f => f)).trans b1
   have f2 := (blk1 b0').1
   have hk2 : RK rb w W1 := hk1.then o1 (fun _ _ f => f.elim)
   have hR := h1.old o1
   have HI := Lib.hid (cnum_no B rb bb 1 r1 W1 hR (by decide) hq)
   have G := Lib.hid (And.intro b0' (And.intro b1' (And.intro b2 hk2)))
   have HW1 := Lib.hid hW1
   clear h1 h2 b0 b1 hk1 b2 o1 b0' b1' hk2 hR HN hq hW1
   go_wp2_with fail
   rw [HW1.out]
   refine HI.out.mono ?_
   rintro e w2 ⟨rfl, h3, h4⟩
   have R := Lib.hid (And.intro h3 (G.out.2.2.2.trans h4))
   clear h3 h4
   go_wp2_with fail
   exact ⟨rfl, rfl, ⟨_, R.out.1⟩, R.out.2⟩
end Go.Proofs.YtfnanbadbmmicaaGreatDoor

namespace Go.Proofs.YtfnanbadbmmicaaGreatDoor
open Go.RowKit

/-- behind so many readings: all were read, or a fault -/
def TPost {α : Type} (Inv : List α → List UInt8 → World → Prop) (Bad : World → Prop) (res : Option (List α × List UInt8)) (e : Ending) (w' : World) : Prop :=
 match res with
 | some x => e = .returned (.tuple #[]) ∧ Inv x.1 x.2 w'
 | none => e = .panicked fault ∧ Bad w'
theorem TPost.yes {α : Type} {Inv : List α → List UInt8 → World → Prop} {Bad : World → Prop} {s : List α} {l : List UInt8} {w' : World} (h : Inv s l w') : TPost Inv Bad (some (s, l)) (.returned (.tuple #[])) w' := ⟨rfl, h⟩
theorem TPost.no {α : Type} {Inv : List α → List UInt8 → World → Prop} {Bad : World → Prop} {w' : World} (h : Bad w') : TPost Inv Bad none (.panicked fault) w' := ⟨rfl, h⟩

set_option maxRecDepth 100000 in
theorem times_any {α : Type} (B rb bb most : Nat) (f : FuncId) (cap : Array Value) (p : List UInt8 → Option (α × List UInt8)) (Inv : List α → List UInt8 → World → Prop) (Bad : World → Prop) (s0 : List α) (l : List UInt8) (w : World)
  (hm : most < 9223372036854775808) (hent : ∀ (args : Array Value) (w : World), (callFunc f args).run Tryz.prog w = .ok (.enter f args) w)
  (hrd : ∀ s l W, Inv s l W → Rd W B rb bb l) (hst : ∀ s l l' W W', Inv s l W → RK rb W W' → Rd W' B rb bb l' → Inv s l' W') (hbad : ∀ s l W, Inv s l W → Bad W)
  (hyes : ∀ s l x r W, Inv s l W → s.length < s0.length + most → p l = some (x, r) → Calls Tryz.prog f cap W fun e W' => e = .returned (.tuple #[]) ∧ Inv (s ++ [x]) r W')
  (hno : ∀ s l W, Inv s l W → p l = none → Calls Tryz.prog f cap W fun e W' => e = .panicked fault ∧ Bad W') (h : Inv s0 l w) :
  Calls Tryz.prog 98 #[rdV rb, .int .u64 most, .func (.func f) #[] cap] w (TPost Inv Bad ((pNum most l).bind fun x => pMany p x.1 s0 x.2)) := by
 have k0 : RK rb w (w.alloc (.cells #[.pointer (some ⟨rb, 0, none⟩)] 98)) := (Keeps.refl _ _).alloc _
 have o0 : Old w (w.alloc (.cells #[.pointer (some ⟨rb, 0, none⟩)] 98)) := (Keeps.refl _ _).alloc _
 have hR := (hrd _ _ _ h).old o0
 have H0 := Lib.hid (hst s0 l l _ _ h k0 hR)
 have HS := Lib.hid hst
 have HY := Lib.hid hyes
 have HN := Lib.hid hno
 have HB := Lib.hid hbad
 have HE := Lib.hid hent
 have hfn := hent cap
 cases hp : pNum most l with
 | none =>
  have C := Lib.hid (cnum_no B rb bb most l _ hR (by omega) hp)
  clear hst hyes hno hbad h k0 o0 hR hrd hp hent hfn
  simp only [Option.bind_none]
  go_enter Tryz.func98, Tryz.ntmps98
  go_wp2_with fail
  refine C.out.mono ?_
  rintro e w1 ⟨rfl, h1, h2⟩
  have R := Lib.hid (HB.out _ _ _ (HS.out _ _ _ _ _ H0.out h2 h1))
  clear h1 h2
  go_wp2_with fail
  exact ⟨rfl, TPost.no R.out⟩
 | some x =>
  obtain ⟨n, r⟩ := x
  have hn := (pNum_inv hp).2.1
  have C := Lib.hid (cnum_yes B rb bb most n l r _ hR (by omega) hp)
  simp only [Option.bind_some]
  obtain ⟨res, hres⟩ : ∃ res, pMany p n s0 r = res := ⟨_, rfl⟩
  rw [hres]
  have HR := Lib.hid hres
  clear hst hyes hno hbad h k0 o0 hR hrd hp hres hent
  go_enter Tryz.func98, Tryz.ntmps98
  go_wp2_with fail
  refine C.out.mono ?_
  rintro e w1 ⟨rfl, h1, h2⟩
  have R := Lib.hid (HS.out _ _ r _ _ H0.out h2 h1)
  clear h1 h2 C
  go_wp2_with fail
  go_loopw [9] (fun v9 wr => ∃ (k : Nat) (s : List α) (l' : List UInt8), k ≤ n ∧ v9 = .int .u64 k ∧ Inv s l' wr ∧ s.length = s0.length + k ∧ pMany p (n - k) s l' = res) (fun v9 _ => n - (intOf v9).toNat)
  case atStart => exact ⟨0, s0, r, by omega, rfl, R.out, rfl, HR.out⟩
  case round =>
   obtain ⟨k, s, l', hk, rfl, hi, hl, hr⟩ := hrel
   by_cases hlt : k < n
   ·cases hx : p l' with
    | none =>
     have e : res = none := by rw [← hr, show n - k = (n - k - 1) + 1 from by omega, pMany, hx]; rfl
     have C := Lib.hid (HN.out s l' _ hi hx)
     clear hr hx hl hi HR
     subst e
     go_wp2_with fail
     refine C.out.mono ?_
     rintro e w2 ⟨rfl, h1⟩
     have R := Lib.hid h1
     clear h1
     go_wp2_with fail
     exact ⟨rfl, TPost.no R.out⟩
    | some x =>
     obtain ⟨x, r'⟩ := x
     have e : pMany p (n - (k + 1)) (s ++ [x]) r' = res := by rw [← hr, show n - k = (n - (k + 1)) + 1 from by omega, pMany, hx]; rfl
     have C := Lib.hid (HY.out s l' x r' _ hi (by omega) hx)
     have E := Lib.hid (And.intro e (show (s ++ [x]).length = s0.length + (k + 1) from by simp; omega))
     clear hr hx hl hi HR e
     go_wp2_with fail
     refine C.out.mono ?_
     rintro e w2 ⟨rfl, h1⟩
     have R := Lib.hid h1
     clear h1
     go_wp2_with fail
     go_roundw
     case rel => exact ⟨k + 1, s ++ [x], r', by omega, by go_num, R.out, E.out.2, E.out.1⟩
     case measure => simp [intOf]; omega
   ·have e : res = some (s, l') := by rw [← hr, show n - k = 0 from by omega]; rfl
    have R := Lib.hid hi
    clear hr hl hi HR
    subst e
    go_wp2_with fail
    go_end0
    exact TPost.yes R.out
end Go.Proofs.YtfnanbadbmmicaaGreatDoor

namespace Go.Proofs.YtfnanbadbmmicaaGreatDoor
open Go.RowKit

section
variable {P : Program} {ops : Array Oper} {Q : Exit → Act → World → Prop} {md : Region.Mode} {S : World → Prop} {M : List Nat}

/-- whatever order is picked from here on; behind every operation of M the condition S holds -/
def wpAnyG (P : Program) (md : Region.Mode) (ops : Array Oper) (Q : Exit → Act → World → Prop) (S : World → Prop) (M : List Nat) : Nat → Array Bool → Act → World → Prop
 | 0, listed, a, w => Region.ready md ops listed = [] ∧ Q .normal a w
 | fuel + 1, listed, a, w =>
  (Region.ready md ops listed = [] → Q .normal a w) ∧
  ∀ i ∈ Region.ready md ops listed, wpOp P ops Q i (fun a' w' => (M.contains i = true → S w') ∧ wpAnyG P md ops Q S M fuel (listed.setIfInBounds i true) a' w') a w
theorem wpAny_of_g : ∀ (fuel : Nat) (listed : Array Bool) (a : Act) (w : World), wpAnyG P md ops Q S M fuel listed a w → wpAny P md ops Q fuel listed a w
 | 0, _, _, _, h => h
 | fuel + 1, _, _, _, h => ⟨h.1, fun i hi => wpOp_mono (fun a' w' h' => wpAny_of_g fuel _ a' w' h'.2) (h.2 i hi)⟩

/-- those that are not in M wait for i -/
def othersWait (md : Region.Mode) (ops : Array Oper) (M : List Nat) (i : Nat) : Bool :=
 (List.range ops.size).all fun j => M.contains j || (j == i || match ops[j]? with | some o => o.after.any (fun e => Region.binds md e && e.on == i) | none => true)
theorem othersWait_spec {i j : Nat} {o : Oper} (h : othersWait md ops M i = true) (ho : ops[j]? = some o) (hj : M.contains j = false) (hne : j ≠ i) : ∃ e ∈ o.after, Region.binds md e = true ∧ e.on = i := by
 unfold othersWait at h
 rw [List.all_eq_true] at h
 have := h j (by rw [List.mem_range]; exact (Array.getElem?_eq_some_iff.1 ho).1)
 rw [hj, ho] at this
 have hb : (j == i) = false := by simp [hne]
 rw [hb] at this
 simp only [Bool.false_or] at this
 obtain ⟨e, he, hb⟩ := Array.any_eq_true'.1 this
 simp only [Bool.and_eq_true, beq_iff_eq] at hb
 exact ⟨e, he, hb.1, hb.2⟩

theorem wpAnyG_first {i : Nat} {oi : Oper} {v : Value} (hi : ops[i]? = some oi) (hsel : ∀ (j : Nat) (o : Oper) cs b, ops[j]? = some o → o.op ≠ .select cs b)
  (hM : othersWait md ops M i = true)
  (hQ : ∀ c a w, Q (.panic c) (a.put oi.dst v) w → Q (.panic c) a w) :
  ∀ (fuel : Nat) (listed : Array Bool) (a : Act) (w : World),
   (∀ j oj, ops[j]? = some oj → j ≠ i → listed.getD j true = false → (∀ e ∈ oj.after, Region.binds md e = true → e.on ≠ i) → oi.apart ops oj = true) →
   i ∈ Region.ready md ops listed → YieldsIf P ops S oi v a → S w →
   wpAnyG P md ops Q S M fuel (listed.setIfInBounds i true) (a.put oi.dst v) w → wpAnyG P md ops Q S M (fuel + 1) listed a w := by
 intro fuel
 induction fuel with
 | zero =>
  intro listed a w _ hr hy hS H
  refine ⟨fun h => (by rw [h] at hr; cases hr), fun j hj => ?_⟩
  by_cases hji : j = i
  ·subst hji; exact hy.wpOp hi hS ⟨fun _ => hS, H⟩
  ·have := ready_mono hj hji
   rw [H.1] at this
   cases this
 | succ fuel ih =>
  intro listed a w hfree hr hy hS H
  refine ⟨fun h => (by rw [h] at hr; cases hr), fun j hj => ?_⟩
  by_cases hji : j = i
  ·subst hji; exact hy.wpOp hi hS ⟨fun _ => hS, H⟩
  ·have h1 := H.2 j (ready_mono hj hji)
   obtain ⟨hjun, oj, hoj, hall⟩ := mem_ready.1 hj
   have hnot : ∀ e ∈ oj.after, Region.binds md e = true → e.on ≠ i := fun e he hb heq => by
    have h1 := hall e he hb
    have h0 := (mem_ready.1 hr).1
    rw [heq] at h1
    rcases Nat.lt_or_ge i listed.size with h' | h'
    ·simp [h'] at h0 h1; rw [h0] at h1; cases h1
    ·simp [Array.getElem?_eq_none h'] at h1
   have hjM : M.contains j = true := by
    cases hc : M.contains j with
    | true => rfl
    | false =>
     obtain ⟨e, he, hb, hon⟩ := othersWait_spec hM hoj hc hji
     exact absurd hon (hnot e he hb)
   have h2 := wpOp_putIf hoj (hfree j oj hoj hji hjun hnot) (fun cs b => hsel i oi cs b hi) (fun cs b => hsel j oj cs b hoj) hQ hy h1
   have hfree' : ∀ k ok, ops[k]? = some ok → k ≠ i → (listed.setIfInBounds j true).getD k true = false →
     (∀ e ∈ ok.after, Region.binds md e = true → e.on ≠ i) → oi.apart ops ok = true := fun k ok hk hki hun hno => by
    refine hfree k ok hk hki ?_ hno
    by_cases hjk : j = k
    ·subst hjk; exact hjun
    ·rw [getD_set_ne true hjk] at hun; exact hun
   refine wpOp_mono (fun a' w' h3 => ⟨h3.2.1, ih (listed.setIfInBounds j true) a' w' hfree' (ready_mono hr (Ne.symm hji)) h3.1 (h3.2.1 hjM) ?_⟩) h2
   rw [Array.setIfInBounds_comm _ _ hji]
   exact h3.2.2

theorem wpAnyG_take {i : Nat} {oi : Oper} {v : Value} {fuel : Nat} {listed : Array Bool} {a : Act} {w : World} (hi : ops[i]? = some oi)
  (hs : Region.noSelect ops = true) (hf : Region.free md ops listed i = true) (hr : (Region.ready md ops listed).contains i = true) (hM : othersWait md ops M i = true)
  (hQ : ∀ c a w, Q (.panic c) (a.put oi.dst v) w → Q (.panic c) a w) (hy : YieldsIf P ops S oi v a) (hS : S w)
  (h : wpAnyG P md ops Q S M fuel (listed.setIfInBounds i true) (a.put oi.dst v) w) : wpAnyG P md ops Q S M (fuel + 1) listed a w :=
 wpAnyG_first hi (Region.noSelect_spec hs) hM hQ fuel listed a w (Region.free_spec hi hf) (by simpa using hr) hy hS h
theorem wpAnyG_done {listed : Array Bool} {a : Act} {w : World} (hr : Region.ready md ops listed = []) (h : Q .normal a w) :
  ∀ fuel, wpAnyG P md ops Q S M fuel listed a w
 | 0 => ⟨hr, h⟩
 | _ + 1 => ⟨fun _ => h, by rw [hr]; simp⟩
theorem wp_region_g {id : Nat} {a : Act} {w : World} (hm : P.follows .mixedOrders = true) (h : wpAnyG P .any ops Q S M ops.size (Array.replicate ops.size false) a w.drew) : (Code.region id ops true).wp P Q a w :=
 wp_region_any hm (wpAny_of_g _ _ _ _ h)
def AllReadyG (P : Program) (md : Region.Mode) (ops : Array Oper) (Q : Exit → Act → World → Prop) (S : World → Prop) (M : List Nat) (fuel : Nat) (listed : Array Bool) (a : Act) (w : World) (rs : List Nat) : Prop :=
 ∀ i ∈ rs, wpOp P ops Q i (fun a' w' => (M.contains i = true → S w') ∧ wpAnyG P md ops Q S M fuel (listed.setIfInBounds i true) a' w') a w
theorem AllReadyG.nil {fuel : Nat} {listed : Array Bool} {a : Act} {w : World} : AllReadyG P md ops Q S M fuel listed a w [] := fun _ h => by cases h
theorem wpAnyG_ready {rs : List Nat} {fuel : Nat} {listed : Array Bool} {a : Act} {w : World} (hr : Region.ready md ops listed = rs) (hne : rs ≠ [])
  (h : AllReadyG P md ops Q S M fuel listed a w rs) : wpAnyG P md ops Q S M (fuel + 1) listed a w :=
 ⟨fun h0 => absurd (hr ▸ h0) hne, hr ▸ h⟩
theorem AllReadyG.cons {fuel : Nat} {listed : Array Bool} {a : Act} {w : World} {i : Nat} {o : Oper} {rs : List Nat} (ho : ops[i]? = some o)
  (h : ∀ K' : Act → World → Prop, Shut (∀ a w, (M.contains i = true → S w) → wpAnyG P md ops Q S M fuel (listed.setIfInBounds i true) a w → K' a w) → if Region.wanted o (yielded ops a.tmps) = true then Oper.wp P o a w K' Q else K' (a.put o.dst undef) w)
  (hs : AllReadyG P md ops Q S M fuel listed a w rs) : AllReadyG P md ops Q S M fuel listed a w (i :: rs) := fun j hj => by
 rcases List.mem_cons.1 hj with rfl | hj
 ·exact wpOp_step ho (fun K' hK => h K' (fun a w hS hW => hK a w ⟨hS, hW⟩))
 ·exact hs j hj
/-- one operation alone may come up -/
theorem wpAnyG_only {fuel : Nat} {listed : Array Bool} {a : Act} {w : World} {i : Nat} {o : Oper} (hr : Region.ready md ops listed = [i]) (ho : ops[i]? = some o)
  (h : ∀ K' : Act → World → Prop, Shut (∀ a w, (M.contains i = true → S w) → wpAnyG P md ops Q S M fuel (listed.setIfInBounds i true) a w → K' a w) → if Region.wanted o (yielded ops a.tmps) = true then Oper.wp P o a w K' Q else K' (a.put o.dst undef) w) :
  wpAnyG P md ops Q S M (fuel + 1) listed a w := wpAnyG_ready hr (by simp) (AllReadyG.cons ho h AllReadyG.nil)
theorem wpAnyG_takeL {i : Nat} {oi : Oper} {v : Value} {fuel : Nat} {listed : Array Bool} {a : Act} {w : World} (hi : ops.toList[i]? = some oi)
  (hs : Region.noSelect ops = true) (hf : Region.free md ops listed i = true) (hr : (Region.ready md ops listed).contains i = true) (hM : othersWait md ops M i = true)
  (hQ : ∀ c a w, Q (.panic c) (a.put oi.dst v) w → Q (.panic c) a w) (hy : YieldsIf P ops S oi v a) (hS : S w)
  (h : wpAnyG P md ops Q S M fuel (listed.setIfInBounds i true) (a.put oi.dst v) w) : wpAnyG P md ops Q S M (fuel + 1) listed a w :=
 wpAnyG_take (by simpa using hi) hs hf hr hM hQ hy hS h
theorem wpAnyG_onlyL {fuel : Nat} {listed : Array Bool} {a : Act} {w : World} {i : Nat} {o : Oper} (hr : Region.ready md ops listed = [i]) (ho : ops.toList[i]? = some o)
  (h : ∀ K' : Act → World → Prop, Shut (∀ a w, (M.contains i = true → S w) → wpAnyG P md ops Q S M fuel (listed.setIfInBounds i true) a w → K' a w) → if Region.wanted o (yielded ops a.tmps) = true then Oper.wp P o a w K' Q else K' (a.put o.dst undef) w) :
  wpAnyG P md ops Q S M (fuel + 1) listed a w := wpAnyG_only hr (by simpa using ho) h
end
end Go.Proofs.YtfnanbadbmmicaaGreatDoor
