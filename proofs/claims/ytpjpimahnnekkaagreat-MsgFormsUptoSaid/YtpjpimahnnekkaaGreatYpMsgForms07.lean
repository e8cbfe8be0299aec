/- DERIVED. The contract of codec's reader: value. · DERIVED. The contract of codec.times. -/
import Derived.Test.YtpjpimahnnekkaaGreatYpMsgForms06
import Derived.Test.YtpjpimahnnekkaaGreatYpMsgForms01
import Derived.Maps.AppendAt
set_option maxRecDepth 100000
set_option maxHeartbeats 2000000
namespace Go.Proofs.YtpjpimahnnekkaaGreat
section
open Go.RowKit
theorem blk1 {w : World} {b : Nat} {t : TypeId} {a0 : Value} (h : w.heap[b]? = some (.cells #[a0] t (0, 0))) : w.cell? ⟨b, 0, none⟩ = some a0 ∧ w.frozen? ⟨b, 0, none⟩ = false := by simp [World.cell?, World.frozen?, h]
theorem blk4 {w : World} {b : Nat} {t : TypeId} {a0 a1 a2 a3 : Value} (h : w.heap[b]? = some (.cells #[a0, a1, a2, a3] t (0, 0))) :
  (w.cell? ⟨b, 0, none⟩ = some a0 ∧ w.cell? ⟨b, 1, none⟩ = some a1 ∧ w.cell? ⟨b, 2, none⟩ = some a2 ∧ w.cell? ⟨b, 3, none⟩ = some a3) ∧
  (w.frozen? ⟨b, 0, none⟩ = false ∧ w.frozen? ⟨b, 1, none⟩ = false ∧ w.frozen? ⟨b, 2, none⟩ = false ∧ w.frozen? ⟨b, 3, none⟩ = false) := by simp [World.cell?, World.frozen?, h]
theorem pVal_cases {l r : List UInt8} {v : Val} (h : pVal l = some (v, r)) : ∃ k r1, pNum 3 l = some (k, r1) ∧
  ((k = 1 ∧ ∃ n, pInt r1 = some (n, r) ∧ v = ⟨1, n, ⟨#[]⟩, false⟩) ∨ (k = 2 ∧ ∃ s, pText 32 r1 = some (s, r) ∧ v = ⟨2, 0, s, false⟩) ∨ (k = 3 ∧ ∃ n, pNum 1 r1 = some (n, r) ∧ v = ⟨3, 0, ⟨#[]⟩, n == 1⟩) ∨ (k = 0 ∧ r = r1 ∧ v = ⟨0, 0, ⟨#[]⟩, false⟩)) := by
 unfold pVal at h
 cases hk : pNum 3 l with
 | none => rw [hk] at h; cases h
 | some x =>
  obtain ⟨k, r1⟩ := x
  have hb := (pNum_inv hk).2.1
  rw [hk] at h
  simp only [Option.bind_some] at h
  refine ⟨k, r1, rfl, ?_⟩
  by_cases h1 : k = 1
  ·rw [if_pos h1] at h
   cases hi : pInt r1 with
   | none => rw [hi] at h; cases h
   | some y =>
    rw [hi] at h
    simp only [Option.map_some, Option.some.injEq, Prod.mk.injEq] at h
    exact .inl ⟨h1, y.1, by rw [← h.2], h.1.symm⟩
  ·rw [if_neg h1] at h
   by_cases h2 : k = 2
   ·rw [if_pos h2] at h
    cases hi : pText 32 r1 with
    | none => rw [hi] at h; cases h
    | some y =>
     rw [hi] at h
     simp only [Option.map_some, Option.some.injEq, Prod.mk.injEq] at h
     exact .inr (.inl ⟨h2, y.1, by rw [← h.2], h.1.symm⟩)
   ·rw [if_neg h2] at h
    by_cases h3 : k = 3
    ·rw [if_pos h3] at h
     cases hi : pNum 1 r1 with
     | none => rw [hi] at h; cases h
     | some y =>
      rw [hi] at h
      simp only [Option.map_some, Option.some.injEq, Prod.mk.injEq] at h
      exact .inr (.inr (.inl ⟨h3, y.1, by rw [← h.2], h.1.symm⟩))
    ·rw [if_neg h3] at h
     simp only [Option.some.injEq, Prod.mk.injEq] at h
     obtain rfl : k = 0 := by omega
     exact .inr (.inr (.inr ⟨rfl, h.2.symm, h.1.symm⟩))
theorem pVal_nones {l : List UInt8} (h : pVal l = none) : pNum 3 l = none ∨ ∃ k r1, pNum 3 l = some (k, r1) ∧ ((k = 1 ∧ pInt r1 = none) ∨ (k = 2 ∧ pText 32 r1 = none) ∨ (k = 3 ∧ pNum 1 r1 = none)) := by
 unfold pVal at h
 cases hk : pNum 3 l with
 | none => exact .inl rfl
 | some x =>
  obtain ⟨k, r1⟩ := x
  rw [hk] at h
  simp only [Option.bind_some] at h
  refine .inr ⟨k, r1, rfl, ?_⟩
  by_cases h1 : k = 1
  ·rw [if_pos h1] at h
   exact .inl ⟨h1, by simpa using h⟩
  ·rw [if_neg h1] at h
   by_cases h2 : k = 2
   ·rw [if_pos h2] at h
    exact .inr (.inl ⟨h2, by simpa using h⟩)
   ·rw [if_neg h2] at h
    by_cases h3 : k = 3
    ·rw [if_pos h3] at h
     exact .inr (.inr ⟨h3, by simpa using h⟩)
    ·rw [if_neg h3] at h; cases h
theorem cint_any (B rb bb : Nat) (l : List UInt8) (w : World) (h : Rd w B rb bb l) :
  Calls Tryz.prog 159 #[.pointer (some ⟨rb, 0, none⟩)] w fun e w' => e = .returned (.tuple #[.int .i64 (readInt l).1, .int .i64 (readInt l).2.1]) ∧ (Rd w' B rb bb (readInt l).2.2 ∧ RK rb w w') :=
 (rint_any B rb bb l w h).mono fun _e _w' h => ⟨h.1, h.2.1, h.2.2⟩
theorem pInt_some {l r : List UInt8} {n : Int} (h : pInt l = some (n, r)) : readInt l = (n, 0, r) := by
 unfold pInt at h
 split at h
 ·rename_i h0
  simp only [Option.some.injEq, Prod.mk.injEq] at h
  rw [← h.1, ← h.2]
  exact Prod.ext rfl (Prod.ext h0 rfl)
 ·cases h
theorem pInt_none {l : List UInt8} (h : pInt l = none) : (readInt l).2.1 ≠ 0 := by
 unfold pInt at h; split at h
 ·cases h
 ·assumption
theorem Rd.far {w w' : World} {B rb bb : Nat} {l : List UInt8} {S : Nat → Prop} (h : Rd w B rb bb l) (hk : Keeps S w w') (hS : ∀ k, S k → B ≤ k ∧ k ≠ rb) : Rd w' B rb bb l := by
 obtain ⟨h0, v, h1, h2, h3, h4, h5⟩ := h
 have hrb := lt_of_block h1
 refine ⟨Nat.le_trans h0 hk.size, v, (hk.block rb hrb (fun s => (hS rb s).2 rfl)).trans h1, h2.keeps hk (fun k hk' s => ?_), h3, h4, h5⟩
 have := (h4 k hk').2
 have := (hS k s).1
 omega
theorem Rd.base {w : World} {B rb bb : Nat} {l : List UInt8} (h : Rd w B rb bb l) : B ≤ w.heap.size := h.1
theorem rd_close {w w2 W : World} {B rb bb : Nat} {r : List UInt8} (h : Rd w2 B rb bb r) (hk : RK rb w w2) (hB : B ≤ w.heap.size) (hrb : rb < w.heap.size) (kk : Keeps (fun k => w.heap.size ≤ k) w2 W) : Rd W B rb bb r ∧ RK rb w W :=
 ⟨h.far kk (fun k hk => ⟨by omega, by omega⟩), hk.then kk (fun i hi h => by omega)⟩
theorem cval_yes (B rb bb : Nat) (v : Val) (l r : List UInt8) (w : World) (h : Rd w B rb bb l) (hp : pVal l = some (v, r)) :
  Calls Tryz.prog 148 #[rdV rb] w fun e w' => e = .returned (.agg v.cells) ∧ (Rd w' B rb bb r ∧ RK rb w w') := by
 obtain ⟨k, r1, hk, hc⟩ := pVal_cases hp
 have hrb := h.lt
 have hbase := h.base
 obtain ⟨W0, hW0⟩ : ∃ W0, (w.alloc (.cells #[.pointer (some ⟨rb, 0, none⟩)] 146)).alloc (.cells #[.int .i64 0, .int .i64 0, .string ⟨#[]⟩, .bool false] 69) = W0 := ⟨_, rfl⟩
 have k0 : Old w W0 := by rw [← hW0]; exact ((Keeps.refl _ _).alloc _).alloc _
 have hb := two_blocks w (.cells #[.pointer (some ⟨rb, 0, none⟩)] 146) (.cells #[.int .i64 0, .int .i64 0, .string ⟨#[]⟩, .bool false] 69)
 rw [hW0] at hb
 have kk : RK rb w W0 := k0.weaken (fun _ _ f => f.elim)
 have hR0 := h.old k0
 have HN := Lib.hid (cnum_yes B rb bb 3 k l r1 W0 hR0 (by decide) hk)
 have HB := Lib.hid hb
 have HK := Lib.hid kk
 have f0 := (blk1 hb.1).1
 clear hb kk h k0 hR0
 have hne : rb ≠ w.heap.size := by omega
 have hne' : rb ≠ w.heap.size + 1 := by omega
 clear hp hk
 rcases hc with ⟨rfl, n, hq, rfl⟩ | ⟨rfl, s, hq, rfl⟩ | ⟨rfl, n, hq, rfl⟩ | ⟨rfl, rfl, rfl⟩
 ·go_enter Tryz.func148, Tryz.ntmps148
  go_wp2_with fail
  refine HN.out.mono ?_
  rintro e w1 ⟨rfl, h1, h2⟩
  have b0 := (h2.block _ (lt_of_heap HB.out.1) (by omega)).trans HB.out.1
  have b1 := (h2.block _ (lt_of_heap HB.out.2) (by omega)).trans HB.out.2
  have hk1 := HK.out.trans h2
  have f1 := (blk1 b0).1
  have hrb1 := h1.lt
  have hne1 : rb ≠ w1.heap.size := by omega
  have hlt0 := lt_of_heap b0
  have hlt1 := lt_of_heap b1
  obtain ⟨W1, hW1⟩ : ∃ W1, w1.alloc (.cells #[.int .i64 1, .int .i64 0, .string ⟨#[]⟩, .bool false] 69) = W1 := ⟨_, rfl⟩
  have b2 : W1.heap[w1.heap.size]? = some (.cells #[.int .i64 1, .int .i64 0, .string ⟨#[]⟩, .bool false] 69 (0, 0)) := by rw [← hW1]; exact heap_alloc_new _ _
  have o1 : Old w1 W1 := by rw [← hW1]; exact (Keeps.refl _ _).alloc _
  have b0' := (o1.block _ hlt0 (fun f => f)).trans b0
  have b1' := (o1.block _ hlt1 (fun f => f)).trans b1
  have f2 := (blk1 b0').1
  have hk2 : RK rb w W1 := hk1.then o1 (fun _ _ f => f.elim)
  have hR := h1.old o1
  have HI := Lib.hid (cint_any B rb bb r1 W1 hR)
  have G := Lib.hid (And.intro b0' (And.intro b1' (And.intro b2 hk2)))
  have HW1 := Lib.hid hW1
  have HQ := Lib.hid (pInt_some hq)
  clear h1 h2 b0 b1 hk1 b2 o1 b0' b1' hk2 hR HN hq hW1
  go_wp2_with fail
  rw [HW1.out]
  refine HI.out.mono ?_
  rintro e w2 ⟨rfl, h3, h4⟩
  rw [HQ.out] at h3 ⊢
  have c0 := (h4.block _ (lt_of_heap G.out.1) (by omega)).trans G.out.1
  have c1 := (h4.block _ (lt_of_heap G.out.2.1) (by omega)).trans G.out.2.1
  have c2 := (h4.block _ (lt_of_heap G.out.2.2.1) (by omega)).trans G.out.2.2.1
  have f4 := (blk1 c0).1
  have f5 := blk4 c1
  have f6 := blk4 c2
  have H := Lib.hid (And.intro h3 (And.intro (G.out.2.2.2.trans h4) (And.intro c1 c2)))
  clear h3 h4 c0 c1 c2
  go_wp2_with (first | (go_at_call 149; refine (must_ok _).mono ?_; rintro e w3 ⟨rfl, rfl⟩))
  refine bodyPost_ret (v := .agg #[.int .i64 1, .int .i64 n, .string ⟨#[]⟩, .bool false]) (by simp [results, Tryz.results148, go_sem, f5]) rfl ⟨rfl, rd_close H.out.1 H.out.2.1 hbase hrb ?_⟩
  repeat (first | exact Keeps.refl _ _ | refine Keeps.setCell ?_ (fun _ => by dsimp only; omega) _)
 ·go_enter Tryz.func148, Tryz.ntmps148
  go_wp2_with fail
  refine HN.out.mono ?_
  rintro e w1 ⟨rfl, h1, h2⟩
  have b0 := (h2.block _ (lt_of_heap HB.out.1) (by omega)).trans HB.out.1
  have b1 := (h2.block _ (lt_of_heap HB.out.2) (by omega)).trans HB.out.2
  have hk1 := HK.out.trans h2
  have f1 := (blk1 b0).1
  have hrb1 := h1.lt
  have hne1 : rb ≠ w1.heap.size := by omega
  have hlt0 := lt_of_heap b0
  have hlt1 := lt_of_heap b1
  obtain ⟨W1, hW1⟩ : ∃ W1, w1.alloc (.cells #[.int .i64 2, .int .i64 0, .string ⟨#[]⟩, .bool false] 69) = W1 := ⟨_, rfl⟩
  have b2 : W1.heap[w1.heap.size]? = some (.cells #[.int .i64 2, .int .i64 0, .string ⟨#[]⟩, .bool false] 69 (0, 0)) := by rw [← hW1]; exact heap_alloc_new _ _
  have o1 : Old w1 W1 := by rw [← hW1]; exact (Keeps.refl _ _).alloc _
  have b0' := (o1.block _ hlt0 (fun f => f)).trans b0
  have b1' := (o1.block _ hlt1 (fun f => f)).trans b1
  have f2 := (blk1 b0').1
  have hk2 : RK rb w W1 := hk1.then o1 (fun _ _ f => f.elim)
  have hR := h1.old o1
  have HI := Lib.hid (ctext_yes B rb bb 32 s r1 r W1 hR (by decide) hq)
  have G := Lib.hid (And.intro b0' (And.intro b1' (And.intro b2 hk2)))
  have HW1 := Lib.hid hW1
  clear h1 h2 b0 b1 hk1 b2 o1 b0' b1' hk2 hR HN hq hW1
  go_wp2_with fail
  rw [HW1.out]
  refine HI.out.mono ?_
  rintro e w2 ⟨rfl, h3, h4⟩
  have c0 := (h4.block _ (lt_of_heap G.out.1) (by omega)).trans G.out.1
  have c1 := (h4.block _ (lt_of_heap G.out.2.1) (by omega)).trans G.out.2.1
  have c2 := (h4.block _ (lt_of_heap G.out.2.2.1) (by omega)).trans G.out.2.2.1
  have f4 := (blk1 c0).1
  have f5 := blk4 c1
  have f6 := blk4 c2
  have H := Lib.hid (And.intro h3 (And.intro (G.out.2.2.2.trans h4) (And.intro c1 c2)))
  clear h3 h4 c0 c1 c2
  go_wp2_with fail
  refine bodyPost_ret (v := .agg #[.int .i64 2, .int .i64 0, .string s, .bool false]) (by simp [results, Tryz.results148, go_sem, f5]) rfl ⟨rfl, rd_close H.out.1 H.out.2.1 hbase hrb ?_⟩
  repeat (first | exact Keeps.refl _ _ | refine Keeps.setCell ?_ (fun _ => by dsimp only; omega) _)
 ·have hn : n = 0 ∨ n = 1 := by have := (pNum_inv hq).2.1; omega
  rcases hn with rfl | rfl
  ·go_enter Tryz.func148, Tryz.ntmps148
   go_wp2_with fail
   refine HN.out.mono ?_
   rintro e w1 ⟨rfl, h1, h2⟩
   have b0 := (h2.block _ (lt_of_heap HB.out.1) (by omega)).trans HB.out.1
   have b1 := (h2.block _ (lt_of_heap HB.out.2) (by omega)).trans HB.out.2
   have hk1 := HK.out.trans h2
   have f1 := (blk1 b0).1
   have hrb1 := h1.lt
   have hne1 : rb ≠ w1.heap.size := by omega
   have hlt0 := lt_of_heap b0
   have hlt1 := lt_of_heap b1
   obtain ⟨W1, hW1⟩ : ∃ W1, w1.alloc (.cells #[.int .i64 3, .int .i64 0, .string ⟨#[]⟩, .bool false] 69) = W1 := ⟨_, rfl⟩
   have b2 : W1.heap[w1.heap.size]? = some (.cells #[.int .i64 3, .int .i64 0, .string ⟨#[]⟩, .bool false] 69 (0, 0)) := by rw [← hW1]; exact heap_alloc_new _ _
   have o1 : Old w1 W1 := by rw [← hW1]; exact (Keeps.refl _ _).alloc _
   have b0' := (o1.block _ hlt0 (fun f => f)).trans b0
   have b1' := (o1.block _ hlt1 (fun f => f)).trans b1
   have f2 := (blk1 b0').1
   have hk2 : RK rb w W1 := hk1.then o1 (fun _ _ f => f.elim)
   have hR := h1.old o1
   have HI := Lib.hid (cnum_yes B rb bb 1 0 r1 r W1 hR (by decide) hq)
   have G := Lib.hid (And.intro b0' (And.intro b1' (And.intro b2 hk2)))
   have HW1 := Lib.hid hW1
   clear h1 h2 b0 b1 hk1 b2 o1 b0' b1' hk2 hR HN hq hW1
   go_wp2_with fail
   rw [HW1.out]
   refine HI.out.mono ?_
   rintro e w2 ⟨rfl, h3, h4⟩
   have c0 := (h4.block _ (lt_of_heap G.out.1) (by omega)).trans G.out.1
   have c1 := (h4.block _ (lt_of_heap G.out.2.1) (by omega)).trans G.out.2.1
   have c2 := (h4.block _ (lt_of_heap G.out.2.2.1) (by omega)).trans G.out.2.2.1
   have f4 := (blk1 c0).1
   have f5 := blk4 c1
   have f6 := blk4 c2
   have H := Lib.hid (And.intro h3 (And.intro (G.out.2.2.2.trans h4) (And.intro c1 c2)))
   clear h3 h4 c0 c1 c2
   go_wp2_with fail
   refine bodyPost_ret (v := .agg #[.int .i64 3, .int .i64 0, .string ⟨#[]⟩, .bool false]) (by simp [results, Tryz.results148, go_sem, f5]) rfl ⟨rfl, rd_close H.out.1 H.out.2.1 hbase hrb ?_⟩
   repeat (first | exact Keeps.refl _ _ | refine Keeps.setCell ?_ (fun _ => by dsimp only; omega) _)
  ·go_enter Tryz.func148, Tryz.ntmps148
   go_wp2_with fail
   refine HN.out.mono ?_
   rintro e w1 ⟨rfl, h1, h2⟩
   have b0 := (h2.block _ (lt_of_heap HB.out.1) (by omega)).trans HB.out.1
   have b1 := (h2.block _ (lt_of_heap HB.out.2) (by omega)).trans HB.out.2
   have hk1 := HK.out.trans h2
   have f1 := (blk1 b0).1
   have hrb1 := h1.lt
   have hne1 : rb ≠ w1.heap.size := by omega
   have hlt0 := lt_of_heap b0
   have hlt1 := lt_of_heap b1
   obtain ⟨W1, hW1⟩ : ∃ W1, w1.alloc (.cells #[.int .i64 3, .int .i64 0, .string ⟨#[]⟩, .bool false] 69) = W1 := ⟨_, rfl⟩
   have b2 : W1.heap[w1.heap.size]? = some (.cells #[.int .i64 3, .int .i64 0, .string ⟨#[]⟩, .bool false] 69 (0, 0)) := by rw [← hW1]; exact heap_alloc_new _ _
   have o1 : Old w1 W1 := by rw [← hW1]; exact (Keeps.refl _ _).alloc _
   have b0' := (o1.block _ hlt0 (fun f => f)).trans b0
   have b1' := (o1.block _ hlt1 (fun f => f)).trans b1
   have f2 := (blk1 b0').1
   have hk2 : RK rb w W1 := hk1.then o1 (fun _ _ f => f.elim)
   have hR := h1.old o1
   have HI := Lib.hid (cnum_yes B rb bb 1 1 r1 r W1 hR (by decide) hq)
   have G := Lib.hid (And.intro b0' (And.intro b1' (And.intro b2 hk2)))
   have HW1 := Lib.hid hW1
   clear h1 h2 b0 b1 hk1 b2 o1 b0' b1' hk2 hR HN hq hW1
   go_wp2_with fail
   rw [HW1.out]
   refine HI.out.mono ?_
   rintro e w2 ⟨rfl, h3, h4⟩
   have c0 := (h4.block _ (lt_of_heap G.out.1) (by omega)).trans G.out.1
   have c1 := (h4.block _ (lt_of_heap G.out.2.1) (by omega)).trans G.out.2.1
   have c2 := (h4.block _ (lt_of_heap G.out.2.2.1) (by omega)).trans G.out.2.2.1
   have f4 := (blk1 c0).1
   have f5 := blk4 c1
   have f6 := blk4 c2
   have H := Lib.hid (And.intro h3 (And.intro (G.out.2.2.2.trans h4) (And.intro c1 c2)))
   clear h3 h4 c0 c1 c2
   go_wp2_with fail
   refine bodyPost_ret (v := .agg #[.int .i64 3, .int .i64 0, .string ⟨#[]⟩, .bool true]) (by simp [results, Tryz.results148, go_sem, f5]) rfl ⟨rfl, rd_close H.out.1 H.out.2.1 hbase hrb ?_⟩
   repeat (first | exact Keeps.refl _ _ | refine Keeps.setCell ?_ (fun _ => by dsimp only; omega) _)
 ·go_enter Tryz.func148, Tryz.ntmps148
  go_wp2_with fail
  refine HN.out.mono ?_
  rintro e w1 ⟨rfl, h1, h2⟩
  have b0 := (h2.block _ (lt_of_heap HB.out.1) (by omega)).trans HB.out.1
  have b1 := (h2.block _ (lt_of_heap HB.out.2) (by omega)).trans HB.out.2
  have hk1 := HK.out.trans h2
  have f1 := (blk1 b0).1
  have hrb1 := h1.lt
  have hne1 : rb ≠ w1.heap.size := by omega
  have hlt0 := lt_of_heap b0
  have hlt1 := lt_of_heap b1
  obtain ⟨W1, hW1⟩ : ∃ W1, w1.alloc (.cells #[.int .i64 0, .int .i64 0, .string ⟨#[]⟩, .bool false] 69) = W1 := ⟨_, rfl⟩
  have b2 : W1.heap[w1.heap.size]? = some (.cells #[.int .i64 0, .int .i64 0, .string ⟨#[]⟩, .bool false] 69 (0, 0)) := by rw [← hW1]; exact heap_alloc_new _ _
  have o1 : Old w1 W1 := by rw [← hW1]; exact (Keeps.refl _ _).alloc _
  have b0' := (o1.block _ hlt0 (fun f => f)).trans b0
  have b1' := (o1.block _ hlt1 (fun f => f)).trans b1
  have f2 := (blk1 b0').1
  have hk2 : RK rb w W1 := hk1.then o1 (fun _ _ f => f.elim)
  have hR := h1.old o1
  have f5 := blk4 b1'
  have f6 := blk4 b2
  have f7 := blk4 b1
  have H := Lib.hid (And.intro h1 hk1)
  clear h1 h2 b0 b1 hk1 b2 o1 b0' b1' hk2 hR HN hW1 f5 f6
  go_wp2_with fail
  refine bodyPost_ret (v := .agg #[.int .i64 0, .int .i64 0, .string ⟨#[]⟩, .bool false]) (by simp [results, Tryz.results148, go_sem, f7, hlt1]) rfl ⟨rfl, rd_close H.out.1 H.out.2 hbase hrb ?_⟩
  repeat (first | exact Keeps.refl _ _ | refine Keeps.setCell ?_ (fun _ => by dsimp only; omega) _ | refine Keeps.alloc ?_ _)
theorem cval_no (B rb bb : Nat) (l : List UInt8) (w : World) (h : Rd w B rb bb l) (hp : pVal l = none) :
  Calls Tryz.prog 148 #[rdV rb] w fun e w' => e = .panicked fault ∧ ((∃ r, Rd w' B rb bb r) ∧ RK rb w w') := by
 have hrb := h.lt
 have hbase := h.base
 obtain ⟨W0, hW0⟩ : ∃ W0, (w.alloc (.cells #[.pointer (some ⟨rb, 0, none⟩)] 146)).alloc (.cells #[.int .i64 0, .int .i64 0, .string ⟨#[]⟩, .bool false] 69) = W0 := ⟨_, rfl⟩
 have k0 : Old w W0 := by rw [← hW0]; exact ((Keeps.refl _ _).alloc _).alloc _
 have hb := two_blocks w (.cells #[.pointer (some ⟨rb, 0, none⟩)] 146) (.cells #[.int .i64 0, .int .i64 0, .string ⟨#[]⟩, .bool false] 69)
 rw [hW0] at hb
 have kk : RK rb w W0 := k0.weaken (fun _ _ f => f.elim)
 have hR0 := h.old k0
 rcases pVal_nones hp with hk | ⟨k, r1, hk, hc⟩
 ·have HN := Lib.hid (cnum_no B rb bb 3 l W0 hR0 (by decide) hk)
  have HB := Lib.hid hb
  have HK := Lib.hid kk
  have f0 := (blk1 hb.1).1
  clear hb kk h k0 hR0
  have hne : rb ≠ w.heap.size := by omega
  have hne' : rb ≠ w.heap.size + 1 := by omega
  clear hp hk
  go_enter Tryz.func148, Tryz.ntmps148
  go_wp2_with fail
  refine HN.out.mono ?_
  rintro e w1 ⟨rfl, h1, h2⟩
  have R := Lib.hid (And.intro h1 (HK.out.trans h2))
  clear h1 h2
  go_wp2_with fail
  exact ⟨rfl, rfl, ⟨_, R.out.1⟩, R.out.2⟩
 ·have HN := Lib.hid (cnum_yes B rb bb 3 k l r1 W0 hR0 (by decide) hk)
  have HB := Lib.hid hb
  have HK := Lib.hid kk
  have f0 := (blk1 hb.1).1
  clear hb kk h k0 hR0
  have hne : rb ≠ w.heap.size := by omega
  have hne' : rb ≠ w.heap.size + 1 := by omega
  clear hp hk
  rcases hc with ⟨rfl, hq⟩ | ⟨rfl, hq⟩ | ⟨rfl, hq⟩
  ·have he := pInt_none hq
   have hd : (((readInt r1).2.1 : Int) != 0) = true := by simp; omega
   clear he
   go_enter Tryz.func148, Tryz.ntmps148
   go_wp2_with fail
   refine HN.out.mono ?_
   rintro e w1 ⟨rfl, h1, h2⟩
   have b0 := (h2.block _ (lt_of_heap HB.out.1) (by omega)).trans HB.out.1
   have b1 := (h2.block _ (lt_of_heap HB.out.2) (by omega)).trans HB.out.2
   have hk1 := HK.out.trans h2
   have f1 := (blk1 b0).1
   have hrb1 := h1.lt
   have hne1 : rb ≠ w1.heap.size := by omega
   have hlt0 := lt_of_heap b0
   have hlt1 := lt_of_heap b1
   obtain ⟨W1, hW1⟩ : ∃ W1, w1.alloc (.cells #[.int .i64 1, .int .i64 0, .string ⟨#[]⟩, .bool false] 69) = W1 := ⟨_, rfl⟩
   have b2 : W1.heap[w1.heap.size]? = some (.cells #[.int .i64 1, .int .i64 0, .string ⟨#[]⟩, .bool false] 69 (0, 0)) := by rw [← hW1]; exact heap_alloc_new _ _
   have o1 : Old w1 W1 := by rw [← hW1]; exact (Keeps.refl _ _).alloc _
   have b0' := (o1.block _ hlt0 (fun f => f)).trans b0
   have b1' := (o1.block _ hlt1 (fun f => f)).trans b1
   have f2 := (blk1 b0').1
   have hk2 : RK rb w W1 := hk1.then o1 (fun _ _ f => f.elim)
   have hR := h1.old o1
   have HI := Lib.hid (cint_any B rb bb r1 W1 hR)
   have G := Lib.hid (And.intro b0' (And.intro b1' (And.intro b2 hk2)))
   have HW1 := Lib.hid hW1
   clear h1 h2 b0 b1 hk1 b2 o1 b0' b1' hk2 hR HN hq hW1
   go_wp2_with fail
   rw [HW1.out]
   refine HI.out.mono ?_
   rintro e w2 ⟨rfl, h3, h4⟩
   have c0 := (h4.block _ (lt_of_heap G.out.1) (by omega)).trans G.out.1
   have c1 := (h4.block _ (lt_of_heap G.out.2.1) (by omega)).trans G.out.2.1
   have c2 := (h4.block _ (lt_of_heap G.out.2.2.1) (by omega)).trans G.out.2.2.1
   have f4 := (blk1 c0).1
   have f5 := blk4 c1
   have f6 := blk4 c2
   have H := Lib.hid (And.intro h3 (And.intro (G.out.2.2.2.trans h4) (And.intro c1 c2)))
   clear h3 h4 c0 c1 c2
   go_wp2_with fail
   refine (must_bad _ hd _).mono ?_
   rintro e w3 ⟨rfl, rfl⟩
   go_wp2_with fail
   exact ⟨rfl, rfl, ⟨_, H.out.1⟩, H.out.2.1⟩
  ·go_enter Tryz.func148, Tryz.ntmps148
   go_wp2_with fail
   refine HN.out.mono ?_
   rintro e w1 ⟨rfl, h1, h2⟩
   have b0 := (h2.block _ (lt_of_heap HB.out.1) (by omega)).trans HB.out.1
   have b1 := (h2.block _ (lt_of_heap HB.out.2) (by omega)).trans HB.out.2
   have hk1 := HK.out.trans h2
   have f1 := (blk1 b0).1
   have hrb1 := h1.lt
   have hne1 : rb ≠ w1.heap.size := by omega
   have hlt0 := lt_of_heap b0
   have hlt1 := lt_of_heap b1
   obtain ⟨W1, hW1⟩ : ∃ W1, w1.alloc (.cells #[.int .i64 2, .int .i64 0, .string ⟨#[]⟩, .bool false] 69) = W1 := ⟨_, rfl⟩
   have b2 : W1.heap[w1.heap.size]? = some (.cells #[.int .i64 2, .int .i64 0, .string ⟨#[]⟩, .bool false] 69 (0, 0)) := by rw [← hW1]; exact heap_alloc_new _ _
   have o1 : Old w1 W1 := by rw [← hW1]; exact (Keeps.refl _ _).alloc _
   have b0' := (o1.block _ hlt0 (fun f => f)).trans b0
   have b1' := (o1.block _ hlt1 (fun f => f)).trans b1
   have f2 := (blk1 b0').1
   have hk2 : RK rb w W1 := hk1.then o1 (fun _ _ f => f.elim)
   have hR := h1.old o1
   have HI := Lib.hid (ctext_no B rb bb 32 r1 W1 hR (by decide) hq)
   have G := Lib.hid (And.intro b0' (And.intro b1' (And.intro b2 hk2)))
   have HW1 := Lib.hid hW1
   clear h1 h2 b0 b1 hk1 b2 o1 b0' b1' hk2 hR HN hq hW1
   go_wp2_with fail
   rw [HW1.out]
   refine HI.out.mono ?_
   rintro e w2 ⟨rfl, h3, h4⟩
   have R := Lib.hid (And.intro h3 (G.out.2.2.2.trans h4))
   clear h3 h4
   go_wp2_with fail
   exact ⟨rfl, rfl, R.out.1, R.out.2⟩
  ·go_enter Tryz.func148, Tryz.ntmps148
   go_wp2_with fail
   refine HN.out.mono ?_
   rintro e w1 ⟨rfl, h1, h2⟩
   have b0 := (h2.block _ (lt_of_heap HB.out.1) (by omega)).trans HB.out.1
   have b1 := (h2.block _ (lt_of_heap HB.out.2) (by omega)).trans HB.out.2
   have hk1 := HK.out.trans h2
   have f1 := (blk1 b0).1
   have hrb1 := h1.lt
   have hne1 : rb ≠ w1.heap.size := by omega
   have hlt0 := lt_of_heap b0
   have hlt1 := lt_of_heap b1
   obtain ⟨W1, hW1⟩ : ∃ W1, w1.alloc (.cells #[.int .i64 3, .int .i64 0, .string ⟨#[]⟩, .bool false] 69) = W1 := ⟨_, rfl⟩
   have b2 : W1.heap[w1.heap.size]? = some (.cells #[.int .i64 3, .int .i64 0, .string ⟨#[]⟩, .bool false] 69 (0, 0)) := by rw [← hW1]; exact heap_alloc_new _ _
   have o1 : Old w1 W1 := by rw [← hW1]; exact (Keeps.refl _ _).alloc _
   have b0' := (o1.block _ hlt0 (fun f => f)).trans b0
   have b1' := (o1.block _ hlt1 (fun f => f)).trans b1
   have f2 := (blk1 b0').1
   have hk2 : RK rb w W1 := hk1.then o1 (fun _ _ f => f.elim)
   have hR := h1.old o1
   have HI := Lib.hid (cnum_no B rb bb 1 r1 W1 hR (by decide) hq)
   have G := Lib.hid (And.intro b0' (And.intro b1' (And.intro b2 hk2)))
   have HW1 := Lib.hid hW1
   clear h1 h2 b0 b1 hk1 b2 o1 b0' b1' hk2 hR HN hq hW1
   go_wp2_with fail
   rw [HW1.out]
   refine HI.out.mono ?_
   rintro e w2 ⟨rfl, h3, h4⟩
   have R := Lib.hid (And.intro h3 (G.out.2.2.2.trans h4))
   clear h3 h4
   go_wp2_with fail
   exact ⟨rfl, rfl, ⟨_, R.out.1⟩, R.out.2⟩
end
section
open Go.RowKit
def TPost {α : Type} (Inv : List α → List UInt8 → World → Prop) (Bad : World → Prop) (res : Option (List α × List UInt8)) (e : Ending) (w' : World) : Prop :=
 match res with
 | some x => e = .returned (.tuple #[]) ∧ Inv x.1 x.2 w'
 | none => e = .panicked fault ∧ Bad w'
theorem TPost.yes {α : Type} {Inv : List α → List UInt8 → World → Prop} {Bad : World → Prop} {s : List α} {l : List UInt8} {w' : World} (h : Inv s l w') : TPost Inv Bad (some (s, l)) (.returned (.tuple #[])) w' := ⟨rfl, h⟩
theorem TPost.no {α : Type} {Inv : List α → List UInt8 → World → Prop} {Bad : World → Prop} {w' : World} (h : Bad w') : TPost Inv Bad none (.panicked fault) w' := ⟨rfl, h⟩
theorem times_any {α : Type} (B rb bb most : Nat) (f : FuncId) (cap : Array Value) (p : List UInt8 → Option (α × List UInt8)) (Inv : List α → List UInt8 → World → Prop) (Bad : World → Prop) (s0 : List α) (l : List UInt8) (w : World)
  (hm : most < 9223372036854775808) (hent : ∀ (args : Array Value) (w : World), (callFunc f args).run Tryz.prog w = .ok (.enter f args) w)
  (hrd : ∀ s l W, Inv s l W → Rd W B rb bb l) (hst : ∀ s l l' W W', Inv s l W → RK rb W W' → Rd W' B rb bb l' → Inv s l' W') (hbad : ∀ s l W, Inv s l W → Bad W)
  (hyes : ∀ s l x r W, Inv s l W → s.length < s0.length + most → p l = some (x, r) → Calls Tryz.prog f cap W fun e W' => e = .returned (.tuple #[]) ∧ Inv (s ++ [x]) r W')
  (hno : ∀ s l W, Inv s l W → p l = none → Calls Tryz.prog f cap W fun e W' => e = .panicked fault ∧ Bad W') (h : Inv s0 l w) :
  Calls Tryz.prog 120 #[rdV rb, .int .u64 most, .func (.func f) #[] cap] w (TPost Inv Bad ((pNum most l).bind fun x => pMany p x.1 s0 x.2)) := by
 have k0 : RK rb w (w.alloc (.cells #[.pointer (some ⟨rb, 0, none⟩)] 146)) := (Keeps.refl _ _).alloc _
 have o0 : Old w (w.alloc (.cells #[.pointer (some ⟨rb, 0, none⟩)] 146)) := (Keeps.refl _ _).alloc _
 have hR := (hrd _ _ _ h).old o0
 have H0 := Lib.hid (hst s0 l l _ _ h k0 hR)
 have HS := Lib.hid hst
 have HY := Lib.hid hyes
 have HN := Lib.hid hno
 have HB := Lib.hid hbad
 have HE := Lib.hid hent
 have hfn := hent cap
 cases hp : pNum most l with
 | none =>
  have C := Lib.hid (cnum_no B rb bb most l _ hR (by omega) hp)
  clear hst hyes hno hbad h k0 o0 hR hrd hp hent hfn
  simp only [Option.bind_none]
  go_enter Tryz.func120, Tryz.ntmps120
  go_wp2_with fail
  refine C.out.mono ?_
  rintro e w1 ⟨rfl, h1, h2⟩
  have R := Lib.hid (HB.out _ _ _ (HS.out _ _ _ _ _ H0.out h2 h1))
  clear h1 h2
  go_wp2_with fail
  exact ⟨rfl, TPost.no R.out⟩
 | some x =>
  obtain ⟨n, r⟩ := x
  have hn := (pNum_inv hp).2.1
  have C := Lib.hid (cnum_yes B rb bb most n l r _ hR (by omega) hp)
  simp only [Option.bind_some]
  obtain ⟨res, hres⟩ : ∃ res, pMany p n s0 r = res := ⟨_, rfl⟩
  rw [hres]
  have HR := Lib.hid hres
  clear hst hyes hno hbad h k0 o0 hR hrd hp hres hent
  go_enter Tryz.func120, Tryz.ntmps120
  go_wp2_with fail
  refine C.out.mono ?_
  rintro e w1 ⟨rfl, h1, h2⟩
  have R := Lib.hid (HS.out _ _ r _ _ H0.out h2 h1)
  clear h1 h2 C
  go_wp2_with fail
  go_loopw [9] (fun v9 wr => ∃ (k : Nat) (s : List α) (l' : List UInt8), k ≤ n ∧ v9 = .int .u64 k ∧ Inv s l' wr ∧ s.length = s0.length + k ∧ pMany p (n - k) s l' = res) (fun v9 _ => n - (intOf v9).toNat)
  case atStart => exact ⟨0, s0, r, by omega, rfl, R.out, rfl, HR.out⟩
  case round =>
   obtain ⟨k, s, l', hk, rfl, hi, hl, hr⟩ := hrel
   by_cases hlt : k < n
   ·cases hx : p l' with
    | none =>
     have e : res = none := by rw [← hr, show n - k = (n - k - 1) + 1 from by omega, pMany, hx]; rfl
     have C := Lib.hid (HN.out s l' _ hi hx)
     clear hr hx hl hi HR
     subst e
     go_wp2_with fail
     refine C.out.mono ?_
     rintro e w2 ⟨rfl, h1⟩
     have R := Lib.hid h1
     clear h1
     go_wp2_with fail
     exact ⟨rfl, TPost.no R.out⟩
    | some x =>
     obtain ⟨x, r'⟩ := x
     have e : pMany p (n - (k + 1)) (s ++ [x]) r' = res := by rw [← hr, show n - k = (n - (k + 1)) + 1 from by omega, pMany, hx]; rfl
     have C := Lib.hid (HY.out s l' x r' _ hi (by omega) hx)
     have E := Lib.hid (And.intro e (show (s ++ [x]).length = s0.length + (k + 1) from by simp; omega))
     clear hr hx hl hi HR e
     go_wp2_with fail
     refine C.out.mono ?_
     rintro e w2 ⟨rfl, h1⟩
     have R := Lib.hid h1
     clear h1
     go_wp2_with fail
     go_roundw
     case rel => exact ⟨k + 1, s ++ [x], r', by omega, by go_num, R.out, E.out.2, E.out.1⟩
     case measure => simp [intOf]; omega
   ·have e : res = some (s, l') := by rw [← hr, show n - k = 0 from by omega]; rfl
    have R := Lib.hid hi
    clear hr hl hi HR
    subst e
    go_wp2_with fail
    go_end0
    exact TPost.yes R.out
end
section
open Go.RowKit
def OwnsR {α : Type} (w : World) (B : Nat) (E : TypeId) (k : Nat) (enc : α → List Value) (v : Value) (l : List α) : Prop := w.ownsRow B E k v l.length (l.flatMap enc)
section
variable {α : Type} {w w' : World} {B : Nat} {E : TypeId} {k : Nat} {enc : α → List Value} {v : Value} {l : List α}
theorem flat_len (hk : ∀ x ∈ l, (enc x).length = k) : (l.flatMap enc).length = l.length * k := by
 induction l with
 | nil => simp
 | cons x r ih =>
  rw [List.flatMap_cons, List.length_append, hk x (by simp), ih (fun y hy => hk y (by simp [hy])), List.length_cons, Nat.succ_mul]
  omega
theorem OwnsR.nil (w : World) (B : Nat) : OwnsR w B E k enc (.slice none 0 0) [] := World.ownsRow_nil w B _ k
theorem OwnsR.keeps {S : Nat → Prop} (h : OwnsR w B E k enc v l) (hk : Keeps S w w') (hS : ∀ b, v.ownBlock = some b → ¬ S b) : OwnsR w' B E k enc v l := ownsRow_keeps h hk hS
theorem OwnsR.old (h : OwnsR w B E k enc v l) (hk : Old w w') : OwnsR w' B E k enc v l := h.keeps hk (fun _ _ f => f)
theorem OwnsR.mono {B' : Nat} (h : OwnsR w B E k enc v l) (hb : B' ≤ B) : OwnsR w B' E k enc v l := ownsRow_mono h hb
theorem OwnsR.block (h : OwnsR w B E k enc v l) : ∀ b, v.ownBlock = some b → B ≤ b ∧ b < w.heap.size := h.lt
theorem OwnsR.alloc (h : OwnsR w B E k enc v l) (o : Obj) : OwnsR (w.alloc o) B E k enc v l := h.old ((Keeps.refl _ _).alloc o)
theorem OwnsR.sees (h : OwnsR w B E k enc v l) (hk : ∀ x, (enc x).length = k) (_hpos : 0 < k) : SeesR w k enc v l := by
 obtain ⟨h1, h2⟩ := h
 rcases h2 with ⟨rfl, h0⟩ | ⟨g, cap, cur, rfl, hb, hgg, hn, hm, hs, ht⟩
 ·have hl : l = [] := List.eq_nil_of_length_eq_zero h0
  subst hl
  exact SeesR.nil w
 ·refine ⟨_, cap, rfl, hn, hm, fun h => (by cases h), fun a ha => ?_⟩
  cases ha
  refine ⟨fun _ => rfl, fun j x hj i u hu => ?_⟩
  have hi : i < k := by rw [← hk x]; exact (List.getElem?_eq_some_iff.1 hu).1
  have hjl : j < l.length := (List.getElem?_eq_some_iff.1 hj).1
  rw [show (⟨g, 0, none⟩ : Addr).add (j * k + i) = ⟨g, j * k + i, none⟩ from by unfold Addr.add; split <;> simp_all]
  rw [cell_of_row w g _ cur _ (0, 0) hgg]
  have hj' := flat_at hk l j x hj i hi
  rw [← ht, List.getElem?_take, hu] at hj'
  split at hj'
  ·simpa using hj'
  ·cases hj'
end
theorem wpList_append_rows {P : Program} {α : Type} {w : World} {ops : Array Oper} {rest : List Oper} {o : Oper} {a : Act} {Q : Exit → Act → World → Prop} (hgd : o.guard = none) (s x : Operand) (T : TypeId)
  (ho : o.op = .call { callee := .builtin .append, args := #[s, x], argTypes := #[T, T] })
  (B : Nat) (E : TypeId) (k by_ : Nat) (enc : α → List Value) (z : Value) (ht : P.underlying T = some (.slice E)) (hinfo : (P.info? E).map (fun i => (i.zero, i.size, i.bytes)) = some (some z, k, by_)) (hzs : z.cells.size = k) (hpos : 0 < k)
  (v : Value) (l : List α) (hs : a.eval s = v) (hown : OwnsR w B E k enc v l) (u : Value) (m : List α) (hx : a.eval x = u) (hu : SeesR w k enc u m) (hk : ∀ x ∈ m, (enc x).length = k) (h1 : ∀ x ∈ m, ∀ c ∈ enc x, c.oneCell' = true)
  (h63 : l.length + m.length ≤ maxLen) (hlen : (l.length + m.length) * by_ ≤ 140737488355328) (hB : B ≤ w.heap.size)
  (h : ∀ v' w', OwnsR w' B E k enc v' (l ++ m) → w.grownBy w' v.ownBlock → (v'.ownBlock = v.ownBlock ∨ v'.ownBlock = some w.heap.size) → wpList P ops Q rest (a.put o.dst v') w') : wpList P ops Q (o :: rest) a w := by
 obtain ⟨p, c, rfl, g1, g2, g3, g4⟩ := hu
 obtain ⟨i0, hi, hz0, hz1, hz2⟩ := info_parts hinfo
 cases p with
 | none =>
  obtain rfl := g3 rfl
  obtain rfl : m = [] := List.eq_nil_of_length_eq_zero (by omega)
  exact wpList_append_own_none hgd s x T ho B E i0 k ht hi v l.length (l.flatMap enc) hs hown hx (h v w (by simpa [OwnsR] using hown) (World.grownBy.refl _ _) (.inl rfl))
 | some ad =>
  refine wpList_append_own_at w hgd s x T ho B E i0 z k by_ ht hi hz0 hz1 hz2 hzs hpos v l.length (l.flatMap enc) hs hown
   ad m.length c (m.flatMap enc) hx (flat_len hk) ?_ ?_ h63 hlen hB ?_
  ·intro j u hu
   have hj : j < m.length * k := by rw [← flat_len hk]; exact (List.getElem?_eq_some_iff.1 hu).1
   have hq : j / k < m.length := (Nat.div_lt_iff_lt_mul hpos).2 hj
   have hx' : m[j / k]? = some m[j / k] := List.getElem?_eq_getElem hq
   have hjr : j = j / k * k + j % k := by rw [Nat.mul_comm]; exact (Nat.div_add_mod j k).symm
   rw [hjr]
   refine (g4 ad rfl).2 (j / k) _ hx' (j % k) u ?_
   rw [← hu]
   have := flat_at' hk (j / k) _ hx' (j % k) (Nat.mod_lt _ hpos)
   rw [← this, ← hjr]
  ·intro u hu
   obtain ⟨y, hy, hyu⟩ := List.mem_flatMap.1 hu
   exact h1 y hy u hyu
  ·intro v' w' ho' hg' _ hat
   exact h v' w' (by unfold OwnsR; simpa using ho') hg' hat
theorem step_append_rows {P : Program} {α : Type} {w : World} {ops : Array Oper} {o : Oper} {a : Act} {K : Act → World → Prop} {Q : Exit → Act → World → Prop} {G : Prop} (hgd : o.guard = none) (s x : Operand) (T : TypeId)
  (ho : o.op = .call { callee := .builtin .append, args := #[s, x], argTypes := #[T, T] })
  (B : Nat) (E : TypeId) (k by_ : Nat) (enc : α → List Value) (z : Value) (ht : P.underlying T = some (.slice E)) (hinfo : (P.info? E).map (fun i => (i.zero, i.size, i.bytes)) = some (some z, k, by_)) (hzs : z.cells.size = k) (hpos : 0 < k)
  (v : Value) (l : List α) (hs : a.eval s = v) (hown : OwnsR w B E k enc v l) (u : Value) (m : List α) (hx : a.eval x = u) (hu : SeesR w k enc u m) (hk : ∀ x ∈ m, (enc x).length = k) (h1 : ∀ x ∈ m, ∀ c ∈ enc x, c.oneCell' = true)
  (h63 : l.length + m.length ≤ maxLen) (hlen : (l.length + m.length) * by_ ≤ 140737488355328) (hB : B ≤ w.heap.size)
  (h : ∀ v' w', OwnsR w' B E k enc v' (l ++ m) → w.grownBy w' v.ownBlock → (v'.ownBlock = v.ownBlock ∨ v'.ownBlock = some w.heap.size) → K (a.put o.dst v') w') :
  if Region.wanted o (yielded ops a.tmps) = true then Oper.wp P o a w K Q else G := by
 have hw : Region.wanted o (yielded ops a.tmps) = true := by simp [Region.wanted, hgd]
 rw [if_pos hw]
 obtain ⟨p, c, rfl, g1, g2, g3, g4⟩ := hu
 obtain ⟨i0, hi, hz0, hz1, hz2⟩ := info_parts hinfo
 cases p with
 | none =>
  obtain rfl := g3 rfl
  obtain rfl : m = [] := List.eq_nil_of_length_eq_zero (by omega)
  have hrun := run_append_owned_none (P := P) (w := w) B T o.type E i0 k ht hi v l.length (l.flatMap enc) hown
  unfold Oper.wp
  simp [execOp, ho, resolve, invoke, builtin, hs, hx, hrun, Result.andThen]
  exact h v w (by simpa [OwnsR] using hown) (World.grownBy.refl _ _) (.inl rfl)
 | some ad =>
  obtain ⟨v', w', hr, h2, h3, _, h5⟩ := run_append_own_at (P := P) w B T o.type E i0 z k by_ ht hi hz0 hz1 hz2 hzs hpos v l.length (l.flatMap enc) hown ad m.length c (m.flatMap enc) (flat_len hk) (by
    intro j u hu
    have hj : j < m.length * k := by rw [← flat_len hk]; exact (List.getElem?_eq_some_iff.1 hu).1
    have hq : j / k < m.length := (Nat.div_lt_iff_lt_mul hpos).2 hj
    have hx' : m[j / k]? = some m[j / k] := List.getElem?_eq_getElem hq
    have hjr : j = j / k * k + j % k := by rw [Nat.mul_comm]; exact (Nat.div_add_mod j k).symm
    rw [hjr]
    refine (g4 ad rfl).2 (j / k) _ hx' (j % k) u ?_
    rw [← hu]
    have := flat_at' hk (j / k) _ hx' (j % k) (Nat.mod_lt _ hpos)
    rw [← this, ← hjr]) (by
    intro u hu
    obtain ⟨y, hy, hyu⟩ := List.mem_flatMap.1 hu
    exact h1 y hy u hyu) h63 hlen hB
  unfold Oper.wp
  simp [execOp, ho, resolve, invoke, builtin, hs, hx, hr, Result.andThen]
  exact h v' w' (by unfold OwnsR; simpa using h2) h3 h5
end
end Go.Proofs.YtpjpimahnnekkaaGreat
