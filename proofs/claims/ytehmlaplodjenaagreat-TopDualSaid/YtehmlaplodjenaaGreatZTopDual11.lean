/- DERIVED. index: holding. -/
import Derived.Test.YtehmlaplodjenaaGreatZTopDual10
import Derived.Deep.DeepCutAuto
import Derived.Laws.EntriesVeiled
set_option maxRecDepth 100000
set_option maxHeartbeats 1000000
namespace Go.Proofs.YtehmlaplodjenaaGreat
section
open Go.RowKit
theorem SeesR.between {α : Type} {w : World} {k : Nat} {enc : α → List Value} {p : Option Addr} {n c : Nat} {l : List α} {T E : TypeId} (h : SeesR w k enc (.slice p n c) l) (lo hi : Nat) (h0 : lo ≤ hi) (h1 : hi ≤ l.length) (ht : Tryz.prog.underlying T = some (.slice E)) (hs : (Tryz.prog.info? E).map (·.size) = some k) :
  ∃ p' c', (∀ W, (Instr.slice T (.slice p n c) (some (.int .i64 (lo : Int))) (some (.int .i64 (hi : Int))) none).run Tryz.prog W = .ok (.slice p' (hi - lo) c') W) ∧ (∀ w2, SeesR w2 k enc (.slice p n c) l → SeesR w2 k enc (.slice p' (hi - lo) c') ((l.take hi).drop lo)) := by
 obtain ⟨p0, c0, he, hc, _⟩ := h.len
 simp only [Value.slice.injEq] at he
 obtain ⟨rfl, rfl, rfl⟩ := he
 obtain ⟨p', c', e⟩ : ∃ p' c', Go.sliced p lo hi c k = .slice p' (hi - lo) c' := ⟨_, _, rfl⟩
 refine ⟨p', c', fun W => ?_, fun w2 h2 => ?_⟩
 ·have hlo : (lo : Int) ≤ (hi : Int) := by omega
  have hhi : (hi : Int) ≤ (c : Int) := by omega
  cases hi' : Tryz.prog.info? E with
  | none => simp [hi'] at hs
  | some i =>
   have hsz : i.size = k := by simpa [hi'] using hs
   rw [← e]
   simp [go_sem, ht, hi', hsz, hlo, hhi, sizeOf, typeInfo]
 ·have := (h2.sliced lo hi h0 h1).1
  rw [e] at this
  exact this
theorem con_cells {w : World} {cb : Nat} {nm : ByteArray} {op ck cn : Int} {cs : ByteArray} {ci : Bool} {sv : Value} {t : TypeId} (hc : w.heap[cb]? = some (.cells #[.string nm, .int .i64 op, .int .i64 ck, .int .i64 cn, .string cs, .bool ci, sv] t (0, 0))) :
  w.cell? ⟨cb, 2, none⟩ = some (.int .i64 ck) ∧ w.cell? ⟨cb, 3, none⟩ = some (.int .i64 cn) ∧ w.cell? ⟨cb, 4, none⟩ = some (.string cs) ∧ w.cell? ⟨cb, 5, none⟩ = some (.bool ci) := by
 simp [World.cell?, hc]
theorem hold1_any (cb : Nat) (c : Con) (v : Val) (w : World) (hc : w.heap[cb]? = some (.cells c.cells.toArray 78 (0, 0))) :
  Calls Tryz.prog 66 #[.agg v.cells, .pointer (some ⟨cb, 0, none⟩)] w fun e w' => e = .returned (.bool (kindP c.plain v)) ∧ Old w w' := by
 obtain ⟨k, n, s, b⟩ := v
 obtain ⟨nm, op, ⟨ck, cn, cs, ci⟩, sv, set⟩ := c
 simp only [Con.cells] at hc
 unfold Val.cells
 simp only
 have hp : kindP (⟨nm, op, ⟨ck, cn, cs, ci⟩, sv, set⟩ : Con).plain ⟨k, n, s, b⟩ = decide (ck ≤ k) := rfl
 rw [hp]
 clear hp
 obtain ⟨W0, hW0⟩ : ∃ W0, w.alloc (.cells #[.int .i64 k, .int .i64 n, .string s, .bool b] 61) = W0 := ⟨_, rfl⟩
 have o0 : Old w W0 := by rw [← hW0]; exact (Keeps.refl _ _).alloc _
 have b0 : W0.heap[w.heap.size]? = some (.cells #[.int .i64 k, .int .i64 n, .string s, .bool b] 61 (0, 0)) := by rw [← hW0]; exact heap_alloc_new _ _
 have x := con_cells ((o0.block _ (lt_of_heap hc) (fun f => f)).trans hc)
 have v0 := blk4 b0
 have O := Lib.hid o0
 clear o0 b0 hc
 go_enter Tryz.func66, Tryz.ntmps66
 go_upto_region 1 with fail
 clear hW0
 go_wp2_with fail
 go_ret
 exact ⟨rfl, O.out⟩
theorem hold2_any (cb : Nat) (c : Con) (v : Val) (w : World) (hc : w.heap[cb]? = some (.cells c.cells.toArray 78 (0, 0))) :
  Calls Tryz.prog 67 #[.agg v.cells, .pointer (some ⟨cb, 0, none⟩)] w fun e w' => e = .returned (.bool (pastP c.plain v)) ∧ Old w w' := by
 obtain ⟨k, n, s, b⟩ := v
 obtain ⟨nm, op, ⟨ck, cn, cs, ci⟩, sv, set⟩ := c
 simp only [Con.cells] at hc
 unfold Val.cells
 simp only
 have hp : pastP (⟨nm, op, ⟨ck, cn, cs, ci⟩, sv, set⟩ : Con).plain ⟨k, n, s, b⟩ = decide (ck < k) := rfl
 rw [hp]
 clear hp
 obtain ⟨W0, hW0⟩ : ∃ W0, w.alloc (.cells #[.int .i64 k, .int .i64 n, .string s, .bool b] 61) = W0 := ⟨_, rfl⟩
 have o0 : Old w W0 := by rw [← hW0]; exact (Keeps.refl _ _).alloc _
 have b0 : W0.heap[w.heap.size]? = some (.cells #[.int .i64 k, .int .i64 n, .string s, .bool b] 61 (0, 0)) := by rw [← hW0]; exact heap_alloc_new _ _
 have x := con_cells ((o0.block _ (lt_of_heap hc) (fun f => f)).trans hc)
 have v0 := blk4 b0
 have O := Lib.hid o0
 clear o0 b0 hc
 go_enter Tryz.func67, Tryz.ntmps67
 go_upto_region 1 with fail
 clear hW0
 go_wp2_with fail
 go_ret
 exact ⟨rfl, O.out⟩
theorem hold3_any (cb : Nat) (c : Con) (v : Val) (w : World) (hc : w.heap[cb]? = some (.cells c.cells.toArray 78 (0, 0))) :
  Calls Tryz.prog 68 #[.agg v.cells, .pointer (some ⟨cb, 0, none⟩)] w fun e w' => e = .returned (.bool (fromP c.plain v)) ∧ Old w w' := by
 have CV := Lib.hid (fun W => val_cmp_any v c.val W)
 obtain ⟨k, n, s, b⟩ := v
 obtain ⟨nm, op, ⟨ck, cn, cs, ci⟩, sv, set⟩ := c
 simp only [Con.cells] at hc
 unfold Val.cells at CV ⊢
 simp only at CV ⊢
 have hp : fromP (⟨nm, op, ⟨ck, cn, cs, ci⟩, sv, set⟩ : Con).plain ⟨k, n, s, b⟩ = decide (0 ≤ valCmp ⟨k, n, s, b⟩ ⟨ck, cn, cs, ci⟩) := rfl
 rw [hp]
 obtain ⟨z, hz⟩ : ∃ z, valCmp ⟨k, n, s, b⟩ ⟨ck, cn, cs, ci⟩ = z := ⟨_, rfl⟩
 rw [hz] at CV ⊢
 clear hz hp
 obtain ⟨W0, hW0⟩ : ∃ W0, w.alloc (.cells #[.int .i64 k, .int .i64 n, .string s, .bool b] 61) = W0 := ⟨_, rfl⟩
 have o0 : Old w W0 := by rw [← hW0]; exact (Keeps.refl _ _).alloc _
 have b0 : W0.heap[w.heap.size]? = some (.cells #[.int .i64 k, .int .i64 n, .string s, .bool b] 61 (0, 0)) := by rw [← hW0]; exact heap_alloc_new _ _
 have x := con_cells ((o0.block _ (lt_of_heap hc) (fun f => f)).trans hc)
 have v0 := blk4 b0
 have O := Lib.hid o0
 clear o0 b0 hc
 go_enter Tryz.func68, Tryz.ntmps68
 go_upto_region 1 with fail
 clear hW0
 go_wp2_with fail
 refine (CV.out _).mono ?_
 rintro e w1 ⟨rfl, k1⟩
 have K := Lib.hid (O.out.trans k1)
 clear k1
 go_wp2_with fail
 go_ret
 exact ⟨rfl, K.out⟩
theorem hold4_any (cb : Nat) (c : Con) (v : Val) (w : World) (hc : w.heap[cb]? = some (.cells c.cells.toArray 78 (0, 0))) :
  Calls Tryz.prog 69 #[.agg v.cells, .pointer (some ⟨cb, 0, none⟩)] w fun e w' => e = .returned (.bool (aboveP c.plain v)) ∧ Old w w' := by
 have CV := Lib.hid (fun W => val_cmp_any v c.val W)
 obtain ⟨k, n, s, b⟩ := v
 obtain ⟨nm, op, ⟨ck, cn, cs, ci⟩, sv, set⟩ := c
 simp only [Con.cells] at hc
 unfold Val.cells at CV ⊢
 simp only at CV ⊢
 have hp : aboveP (⟨nm, op, ⟨ck, cn, cs, ci⟩, sv, set⟩ : Con).plain ⟨k, n, s, b⟩ = decide (0 < valCmp ⟨k, n, s, b⟩ ⟨ck, cn, cs, ci⟩) := rfl
 rw [hp]
 obtain ⟨z, hz⟩ : ∃ z, valCmp ⟨k, n, s, b⟩ ⟨ck, cn, cs, ci⟩ = z := ⟨_, rfl⟩
 rw [hz] at CV ⊢
 clear hz hp
 obtain ⟨W0, hW0⟩ : ∃ W0, w.alloc (.cells #[.int .i64 k, .int .i64 n, .string s, .bool b] 61) = W0 := ⟨_, rfl⟩
 have o0 : Old w W0 := by rw [← hW0]; exact (Keeps.refl _ _).alloc _
 have b0 : W0.heap[w.heap.size]? = some (.cells #[.int .i64 k, .int .i64 n, .string s, .bool b] 61 (0, 0)) := by rw [← hW0]; exact heap_alloc_new _ _
 have x := con_cells ((o0.block _ (lt_of_heap hc) (fun f => f)).trans hc)
 have v0 := blk4 b0
 have O := Lib.hid o0
 clear o0 b0 hc
 go_enter Tryz.func69, Tryz.ntmps69
 go_upto_region 1 with fail
 clear hW0
 go_wp2_with fail
 refine (CV.out _).mono ?_
 rintro e w1 ⟨rfl, k1⟩
 have K := Lib.hid (O.out.trans k1)
 clear k1
 go_wp2_with fail
 go_ret
 exact ⟨rfl, K.out⟩
theorem hold5_any (cb b6 b7 : Nat) (c : Con) (v : Val) (w : World) (hc : w.heap[cb]? = some (.cells c.cells.toArray 78 (0, 0)))
  (h6 : w.heap[b6]? = some (.cells #[.func (.func 67) #[] #[.pointer (some ⟨cb, 0, none⟩)]] 72 (0, 0))) (h7 : w.heap[b7]? = some (.cells #[.func (.func 68) #[] #[.pointer (some ⟨cb, 0, none⟩)]] 72 (0, 0))) :
  Calls Tryz.prog 70 #[.agg v.cells, .pointer (some ⟨b6, 0, none⟩), .pointer (some ⟨b7, 0, none⟩), .pointer (some ⟨cb, 0, none⟩)] w fun e w' => e = .returned (.bool (pre5P c.plain v)) ∧ Old w w' := by
 have P2 := Lib.hid (fun W (hW : Old w W) => hold2_any cb c v W ((hW.block _ (lt_of_heap hc) (fun f => f)).trans hc))
 have P3 := Lib.hid (fun W (hW : Old w W) => hold3_any cb c v W ((hW.block _ (lt_of_heap hc) (fun f => f)).trans hc))
 have HP := Lib.hid (fun W => hasprefix_any v.str c.val.str W)
 have hp : pre5P c.plain v = (pastP c.plain v || (fromP c.plain v && !hasPre v.str c.val.str)) := rfl
 rw [hp]
 clear hp
 obtain ⟨k, n, s, b⟩ := v
 obtain ⟨nm, op, ⟨ck, cn, cs, ci⟩, sv, set⟩ := c
 simp only [Con.cells] at hc
 simp only at HP ⊢
 obtain ⟨z1, hz1⟩ : ∃ z, pastP (⟨nm, op, ⟨ck, cn, cs, ci⟩, sv, set⟩ : Con).plain ⟨k, n, s, b⟩ = z := ⟨_, rfl⟩
 obtain ⟨z2, hz2⟩ : ∃ z, fromP (⟨nm, op, ⟨ck, cn, cs, ci⟩, sv, set⟩ : Con).plain ⟨k, n, s, b⟩ = z := ⟨_, rfl⟩
 obtain ⟨z3, hz3⟩ : ∃ z, hasPre s cs = z := ⟨_, rfl⟩
 rw [hz1] at P2 ⊢
 rw [hz2] at P3 ⊢
 rw [hz3] at HP ⊢
 clear hz1 hz2 hz3
 unfold Val.cells at P2 P3 ⊢
 simp only at P2 P3 ⊢
 obtain ⟨W0, hW0⟩ : ∃ W0, w.alloc (.cells #[.int .i64 k, .int .i64 n, .string s, .bool b] 61) = W0 := ⟨_, rfl⟩
 have o0 : Old w W0 := by rw [← hW0]; exact (Keeps.refl _ _).alloc _
 have b0 : W0.heap[w.heap.size]? = some (.cells #[.int .i64 k, .int .i64 n, .string s, .bool b] 61 (0, 0)) := by rw [← hW0]; exact heap_alloc_new _ _
 have q6 := blk1 ((o0.block _ (lt_of_heap h6) (fun f => f)).trans h6)
 have v0 := blk4 b0
 have O := Lib.hid (And.intro o0 (And.intro b0 (And.intro hc h7)))
 clear o0 b0 hc h6 h7
 go_enter Tryz.func70, Tryz.ntmps70
 go_upto_region 1 with fail
 clear hW0
 cases z1
 ·go_wp2_with fail
  refine (P2.out _ O.out.1).mono ?_
  rintro e w1 ⟨rfl, k1⟩
  have k0 := O.out.1.trans k1
  have q7 := blk1 ((k0.block _ (lt_of_heap O.out.2.2.2) (fun f => f)).trans O.out.2.2.2)
  have v1 := blk4 ((k1.block _ (lt_of_heap O.out.2.1) (fun f => f)).trans O.out.2.1)
  have K := Lib.hid (And.intro k0 k1)
  clear k0 k1 q6 v0
  cases z2
  ·go_wp2_with fail
   refine (P3.out _ K.out.1).mono ?_
   rintro e w2 ⟨rfl, k2⟩
   have K2 := Lib.hid (K.out.1.trans k2)
   clear k2
   go_wp2_with fail
   go_ret
   exact ⟨rfl, K2.out⟩
  ·go_wp2_with fail
   refine (P3.out _ K.out.1).mono ?_
   rintro e w2 ⟨rfl, k2⟩
   have k3 := K.out.1.trans k2
   have v2 := blk4 (((K.out.2.trans k2).block _ (lt_of_heap O.out.2.1) (fun f => f)).trans O.out.2.1)
   have x := con_cells ((k3.block _ (lt_of_heap O.out.2.2.1) (fun f => f)).trans O.out.2.2.1)
   have K2 := Lib.hid k3
   clear k2 k3 v1 q7
   go_wp2_with fail
   refine (HP.out _).mono ?_
   rintro e w3 ⟨rfl, k3⟩
   have K3 := Lib.hid (K2.out.trans k3)
   clear k3
   go_wp2_with fail
   go_ret
   exact ⟨by cases z3 <;> rfl, K3.out⟩
 ·go_wp2_with fail
  refine (P2.out _ O.out.1).mono ?_
  rintro e w1 ⟨rfl, k1⟩
  have K := Lib.hid (O.out.1.trans k1)
  clear k1
  go_wp2_with fail
  go_ret
  exact ⟨rfl, K.out⟩
end
end Go.Proofs.YtehmlaplodjenaaGreat
