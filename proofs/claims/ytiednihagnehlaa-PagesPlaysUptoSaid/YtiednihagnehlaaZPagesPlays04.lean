/- DERIVED. Chapter 25: the document's queue: Next, Add. · DERIVED. Chapter 25: the document's queue: Add. (gen_qt.py wrote it) -/
import Derived.Test.YtiednihagnehlaaZPagesPlays03
import Derived.BigQuiet
import Derived.Deep.QuietTactic
import Derived.Deep.CutBlock
import Derived.Deep.DeepCutAuto
import Derived.Deep.LoopGhost
namespace Go.Proofs.Ytiednihagnehlaa
open Go.RowKit

/-- [lo:] of rows, as an equation on the run -/
theorem SeesR.from' {α : Type} {w : World} {k : Nat} {enc : α → List Value} {p : Option Addr} {n c : Nat} {l : List α} {T E : TypeId} (h : SeesR w k enc (.slice p n c) l) (lo : Nat) (h1 : lo ≤ l.length) (ht : Try.prog.underlying T = some (.slice E)) (hs : (Try.prog.info? E).map (·.size) = some k) (kd : IntKind) (x : Int) (hx : x = (lo : Int)) :
  ∃ p' c', (∀ W, (Instr.slice T (.slice p n c) (some (.int kd x)) none none).run Try.prog W = .ok (.slice p' (l.length - lo) c') W) ∧ (∀ w2, SeesR w2 k enc (.slice p n c) l → SeesR w2 k enc (.slice p' (l.length - lo) c') (l.drop lo)) := by
 obtain ⟨p0, c0, he, _, _⟩ := h.len
 simp only [Value.slice.injEq] at he
 obtain ⟨rfl, rfl, rfl⟩ := he
 obtain ⟨p', c', e⟩ : ∃ p' c', Go.sliced p lo l.length c k = .slice p' (l.length - lo) c' := ⟨_, _, rfl⟩
 refine ⟨p', c', fun W => ?_, fun w2 h2 => ?_⟩
 ·subst hx
  have hlo : (lo : Int) ≤ (l.length : Int) := by omega
  cases hi : Try.prog.info? E with
  | none => simp [hi] at hs
  | some i =>
   have hsz : i.size = k := by simpa [hi] using hs
   rw [← e]
   simp [go_sem, ht, hi, hsz, hlo, sizeOf, typeInfo]
 ·have := (h2.sliced lo l.length h1 (Nat.le_refl _)).1
  rw [List.take_of_length_le (Nat.le_refl _), e] at this
  exact this
theorem load_rqm {w : World} {b : Nat} {x : Qy} {t : TypeId} (h : w.heap[b]? = some (.cells x.cells.toArray t (0, 0))) : (loadVar 60 ⟨b, 1, none⟩).run Try.prog w = .ok (.agg x.m.cells.toArray) w :=
 load_sub (cs := x.m.cells.toArray) (fun j v hv => by
  have hv' : x.m.cells[j]? = some v := by simpa using hv
  have : x.cells.toArray[1 + j]? = some v := by simpa [Qy.cells, Nat.add_comm 1 j] using hv'
  simp only [World.cell?]
  rw [h]
  simpa using this) Try.underlying60 rfl (by simp only [List.size_toArray]; show _ = some 18; kernel_rfl)
theorem store_rq {w : World} {mb : Nat} {t : TypeId} {y : Qy} (h : w.heap[mb]? = some (.cells y.cells.toArray t (0, 0))) (x : Qy) (h1 : x.cells.toArray.all (·.oneCell') = true) :
  ∃ w', (storeVar 100 ⟨mb, 0, none⟩ (.agg x.cells.toArray)).run Try.prog w = .ok () w' ∧ w'.heap[mb]? = some (.cells x.cells.toArray t (0, 0)) ∧ Keeps (fun k => k = mb) w w' :=
 store_cells h _ (by simp [Qy.len]) (by simp only [List.size_toArray, Qy.len]; kernel_rfl) h1 (putRange_whole (by simp [Qy.len]))
attribute [-go_sem] loadVar storeVar
/-- the document's first that waits -/
def RNext (T : Nat → Prop) (w : World) (rb most : Nat) : List (Int × PMs) → Ending → World → Prop
 | [], e, w' => e = .returned (.tuple #[.int .i64 0, .agg zeroMs.cells.toArray, .bool false]) ∧ Old w w'
 | x :: P, e, w' => ∃ m : Ms, e = .returned (.tuple #[.int .i64 x.1, .agg m.cells.toArray, .bool true]) ∧ m.plain = x.2 ∧ Steady (fun k => T k ∨ k = rb) w' m ∧ Dq T w' rb most P ∧ Keeps (fun k => k = rb) w w'
set_option maxRecDepth 100000 in
theorem rnext_none {T : Nat → Prop} {w : World} {rb most : Nat} (h : Dq T w rb most []) : Calls Try.prog 19 #[.pointer (some ⟨rb, 0, none⟩)] w (RNext T w rb most []) := by
 obtain ⟨p, n, c, L, hL, h1, h2, h3, h4, h5, h6⟩ := h
 obtain rfl : L = [] := List.map_eq_nil_iff.1 hL
 obtain ⟨p', c', e, _, _⟩ := h2.len
 simp only [Value.slice.injEq] at e
 obtain ⟨rfl, rfl, rfl⟩ := e
 obtain ⟨Wa, hWa⟩ : ∃ W, w.alloc (.cells zeroMs.cells.toArray 60) = W := ⟨_, rfl⟩
 have ba : RAt Wa w.heap.size zeroMs := by rw [← hWa]; exact heap_alloc_new _ _
 have oa : Old w Wa := by rw [← hWa]; exact (Keeps.refl _ _).alloc _
 obtain ⟨W2, hst, b2, kb⟩ := store_msgR ba zeroMs (MsO.zero w 0).one
 have o2 : Old w W2 := oa.then kb (fun i hi e => by omega)
 have gl := load_whole b2 (by simp [Ms.cells]) Try.underlying60 (by kernel_rfl)
 change (storeVar 60 ⟨w.heap.size, 0, none⟩ (.agg #[.int .i64 0, .int .i64 0, .int .u64 0, .bool false, .slice none 0 0, .int .u64 0, .int .u64 0, .string ⟨#[]⟩, .slice none 0 0, .int .i64 0, .int .u64 0, .int .u64 0, .int .u64 0, .int .u64 0, .int .u64 0, .slice none 0 0, .slice none 0 0, .bool false])).run Try.prog Wa = .ok () W2 at hst
 change w.alloc (.cells #[.int .i64 0, .int .i64 0, .int .u64 0, .bool false, .slice none 0 0, .int .u64 0, .int .u64 0, .string ⟨#[]⟩, .slice none 0 0, .int .i64 0, .int .u64 0, .int .u64 0, .int .u64 0, .int .u64 0, .int .u64 0, .slice none 0 0, .slice none 0 0, .bool false] 60) = Wa at hWa
 obtain ⟨g0, g1, _⟩ := blkQu ((oa.block rb (lt_of_heap h1) (fun f => f)).trans h1)
 have q1 : ∀ a W, (loadVar 76 a).run Try.prog W = (load a).run Try.prog W := fun _ _ => by kernel_rfl
 have K := Lib.hid (And.intro o2 gl)
 clear h1 h2 h3 h4 h5 h6 hL ba oa b2 kb o2 gl g0
 go_enter Try.func19, Try.ntmps19
 go_wp2_with fail
 have gl := K.out.2
 refine bodyPost_ret (v := .tuple #[.int .i64 0, .agg zeroMs.cells.toArray, .bool false]) ?_ rfl ⟨rfl, K.out.1⟩
 simp [results, Try.results19, go_sem, gl]
set_option maxRecDepth 100000 in
set_option maxHeartbeats 2000000 in
theorem rnext_some {T : Nat → Prop} {w : World} {rb most : Nat} {x : Int × PMs} {P : List (Int × PMs)} (h : Dq T w rb most (x :: P)) (hlen : P.length ≤ 10000) : Calls Try.prog 19 #[.pointer (some ⟨rb, 0, none⟩)] w (RNext T w rb most (x :: P)) := by
 have hD := Lib.hid h
 obtain ⟨p, n, c, L, hL, h1, h2, h3, h4, h5, h6⟩ := h
 obtain ⟨y, L, rfl, rfl, rfl⟩ : ∃ y L', L = y :: L' ∧ y.plain = x ∧ L'.map Qy.plain = P := by
  cases L with
  | nil => cases hL
  | cons y L => simp at hL; exact ⟨y, L, rfl, hL.1, hL.2⟩
 rw [List.length_map] at hlen
 have hone : ∀ z ∈ y :: L, ∀ u ∈ z.cells, u.oneCell' = true := fun z hz u hu => by
  have := (h5 z hz).fine.one
  rw [Array.all_eq_true_iff_forall_mem] at this
  rcases List.mem_cons.1 hu with rfl | hu
  ·rfl
  ·exact this u (by simpa using hu)
 obtain ⟨b, o, c', e, hle, hmx, hcell⟩ := h2.at (by simp)
 simp only [Value.slice.injEq] at e
 obtain ⟨rfl, rfl, rfl⟩ := e
 obtain ⟨p2, c2, hsl, hsl2⟩ := SeesR.from' (T := 76) (E := 100) h2 1 (by simp) Try.underlying76 (by kernel_rfl) .i64 1 rfl
 obtain ⟨n, hn⟩ : ∃ n, (y :: L).length = n := ⟨_, rfl⟩
 have hn1 : n = L.length + 1 := by rw [← hn]; rfl
 have hLn : (y :: L).length - 1 = L.length := by simp
 rw [hLn] at hsl hsl2
 rw [hn] at h1 h2 hle h3 hsl hsl2
 have dn : (((n : Nat) : Int) == 0) = false := by simp; omega
 have dn' : 0 < n := by omega
 obtain ⟨Wa, hWa⟩ : ∃ W, w.alloc (.cells zeroMs.cells.toArray 60) = W := ⟨_, rfl⟩
 have ba : RAt Wa w.heap.size zeroMs := by rw [← hWa]; exact heap_alloc_new _ _
 have oa : Old w Wa := by rw [← hWa]; exact (Keeps.refl _ _).alloc _
 have sa : Wa.heap.size = w.heap.size + 1 := by rw [← hWa]; simp
 obtain ⟨Wb, hWb⟩ : ∃ W, Wa.alloc (.cells zeroQ.cells.toArray 100) = W := ⟨_, rfl⟩
 have bb : Wb.heap[Wa.heap.size]? = some (.cells zeroQ.cells.toArray 100 (0, 0)) := by rw [← hWb]; exact heap_alloc_new _ _
 have ob : Old Wa Wb := by rw [← hWb]; exact (Keeps.refl _ _).alloc _
 obtain ⟨W2, hst, b2, kb⟩ := store_rq bb y (one_arr (hone y (by simp)))
 have o2 : Old Wa W2 := ob.then kb (fun i hi e => by omega)
 rw [sa] at hst b2
 have lq := load_rq (w := Wa) (b := b) (o := o) (x := y) (fun i u hu => by
  have := oa.cell (hcell 0 y rfl i u hu) (fun f => f)
  simpa using this)
 change w.alloc (.cells #[.int .i64 0, .int .i64 0, .int .u64 0, .bool false, .slice none 0 0, .int .u64 0, .int .u64 0, .string ⟨#[]⟩, .slice none 0 0, .int .i64 0, .int .u64 0, .int .u64 0, .int .u64 0, .int .u64 0, .int .u64 0, .slice none 0 0, .slice none 0 0, .bool false] 60) = Wa at hWa
 change Wa.alloc (.cells #[.int .i64 0, .int .i64 0, .int .i64 0, .int .u64 0, .bool false, .slice none 0 0, .int .u64 0, .int .u64 0, .string ⟨#[]⟩, .slice none 0 0, .int .i64 0, .int .u64 0, .int .u64 0, .int .u64 0, .int .u64 0, .int .u64 0, .slice none 0 0, .slice none 0 0, .bool false] 100) = Wb at hWb
 have hqa := (oa.block rb (lt_of_heap h1) (fun f => f)).trans h1
 have oo : Old w W2 := oa.trans o2
 have hq2 := (oo.block rb (lt_of_heap h1) (fun f => f)).trans h1
 obtain ⟨g0, g1, _⟩ := blkQu hqa
 obtain ⟨f0, f1, _⟩ := blkQu hq2
 have q1 : ∀ a W, (loadVar 76 a).run Try.prog W = (load a).run Try.prog W := fun _ _ => by kernel_rfl
 have q2 : ∀ a W, (loadVar 3 a).run Try.prog W = (load a).run Try.prog W := fun _ _ => by kernel_rfl
 have s2 : SeesQ W2 (.slice p2 L.length c2) L := hsl2 W2 (h2.old oo)
 have lx : ([] : List Qy).length + L.length ≤ maxLen := by unfold maxLen; simp; omega
 have lx2 : (([] : List Qy).length + L.length) * 224 ≤ 140737488355328 := by simp; omega
 have ba2 : RAt W2 w.heap.size zeroMs := (o2.block _ (lt_of_heap ba) (fun f => f)).trans ba
 have H := Lib.hid (And.intro oo (And.intro s2 (And.intro (show ∀ z ∈ L, ∀ u ∈ z.cells, u.oneCell' = true from fun z hz => hone z (List.mem_cons_of_mem _ hz)) (And.intro lx (And.intro lx2 (And.intro b2 (And.intro hq2 (And.intro ba2 (And.intro h1 (And.intro h5 (And.intro (hone y (by simp)) (And.intro h3 hlen))))))))))))
 clear h1 h2 h3 h4 h5 h6 hone hle hmx hcell ba oa bb ob b2 kb o2 hqa hq2 g0 f0 oo hL hn hn1 hsl2 s2 lx lx2 ba2 hlen hLn
 go_enter Try.func19, Try.ntmps19
 go_upto_region 5 with fail
 clear hWa hWb lq hst g1 sa
 go_upto_region 6 with (at_builtin; refine wpList_append_rows (P := Try.prog) rfl _ _ 76 rfl W2.heap.size 100 19 224 Qy.cells _ Try.underlying76 Try.infoRq rfl (by decide) (.slice none 0 0) ([] : List Qy) (by rfl) (OwnsR.nil _ _) _ L (by rfl) H.out.2.1 (fun _ _ => rfl) H.out.2.2.1 H.out.2.2.2.1 H.out.2.2.2.2.1 (Nat.le_refl _) ?_; intro v4 w4 ho4 hg4 hv4; rw [List.nil_append] at ho4; have k4 : Old W2 w4 := (Keeps.refl (fun _ => False) W2).then (T := fun j => some j = (Value.slice none 0 0).ownBlock) ⟨hg4.os, hg4.tape, hg4.output, hg4.size, fun j hj hne => hg4.block j hj hne⟩ (fun j hj e => by cases e); obtain ⟨p4, c4, e4, _, _⟩ := (ho4.sees Qy.len (by decide)).len; subst e4; have hq4 := (k4.block _ (lt_of_heap H.out.2.2.2.2.2.2.1) (fun f => f)).trans H.out.2.2.2.2.2.2.1; obtain ⟨W5, hst5, b5, k5⟩ := store_cell (o := 1) (ty := 76) hq4 (.slice p4 L.length c4) rfl (by simp) (by kernel_rfl) rfl rfl; have N4 := Lib.hid (And.intro ho4 (And.intro k4 (And.intro b5 k5))); clear ho4 hg4 hv4 k4 hq4 b5 k5)
 have hx5 : W5.drew.heap[w.heap.size + 1]? = some (.cells y.cells.toArray 100 (0, 0)) := (N4.out.2.2.2.block _ (by have := lt_of_heap H.out.2.2.2.2.2.1; have := N4.out.2.1.size; omega) (by have := lt_of_heap H.out.2.2.2.2.2.2.2.2.1; omega)).trans ((N4.out.2.1.block _ (lt_of_heap H.out.2.2.2.2.2.1) (fun f => f)).trans H.out.2.2.2.2.2.1)
 have hr5 : RAt W5.drew w.heap.size zeroMs := (N4.out.2.2.2.block _ (by have := lt_of_heap H.out.2.2.2.2.2.2.2.1; have := N4.out.2.1.size; omega) (by have := lt_of_heap H.out.2.2.2.2.2.2.2.2.1; omega)).trans ((N4.out.2.1.block _ (lt_of_heap H.out.2.2.2.2.2.2.2.1) (fun f => f)).trans H.out.2.2.2.2.2.2.2.1)
 have hmone : y.m.cells.toArray.all (·.oneCell') = true := by
  rw [Array.all_eq_true_iff_forall_mem]
  intro u hu
  exact H.out.2.2.2.2.2.2.2.2.2.2.1 u (List.mem_cons_of_mem _ (by simpa using hu))
 obtain ⟨W6, hst6, hr6, k6⟩ := store_msgR hr5 y.m hmone
 have gl := load_whole hr6 (by simp [Ms.cells]) Try.underlying60 (by kernel_rfl)
 have S5 := Lib.hid (And.intro k6 (And.intro gl hx5))
 clear hr6 k6 gl hmone hr5
 refine wp_region_g (S := fun W => W.heap[w.heap.size + 1]? = some (.cells y.cells.toArray 100 (0, 0))) (M := [0, 1, 2, 3, 4, 5, 6]) (by kernel_rfl) ?_
 refine wpAnyG_takeL (i := 0) (oi := _) (v := ?va0) rfl (by kernel_rfl) (by kernel_rfl) (by kernel_rfl) (by kernel_rfl) (fun _ _ _ h => h) (Or.inl ⟨by rfl, ?ya0⟩) hx5 ?ra0
 case ya0 => (intro W hSw; go_simp; try with_reducible rfl)
 try simp only [Act.put, List.setIfInBounds_toArray, List.set_cons_zero, List.set_cons_succ]
 refine wpAnyG_takeL (i := 1) (oi := _) (v := ?va1) rfl (by kernel_rfl) (by kernel_rfl) (by kernel_rfl) (by kernel_rfl) (fun _ _ _ h => h) (Or.inl ⟨by rfl, ?ya1⟩) hx5 ?ra1
 case ya1 => (intro W hSw; have y1 := (qat_cells hSw).1; go_simp; try with_reducible rfl)
 try simp only [Act.put, List.setIfInBounds_toArray, List.set_cons_zero, List.set_cons_succ]
 refine wpAnyG_takeL (i := 2) (oi := _) (v := ?va2) rfl (by kernel_rfl) (by kernel_rfl) (by kernel_rfl) (by kernel_rfl) (fun _ _ _ h => h) (Or.inl ⟨by rfl, ?ya2⟩) hx5 ?ra2
 case ya2 => (intro W hSw; go_simp; try with_reducible rfl)
 try simp only [Act.put, List.setIfInBounds_toArray, List.set_cons_zero, List.set_cons_succ]
 refine wpAnyG_takeL (i := 3) (oi := _) (v := ?va3) rfl (by kernel_rfl) (by kernel_rfl) (by kernel_rfl) (by kernel_rfl) (fun _ _ _ h => h) (Or.inl ⟨by rfl, ?ya3⟩) hx5 ?ra3
 case ya3 => (intro W hSw; have y1 := load_rqm hSw; go_simp; try with_reducible rfl)
 try simp only [Act.put, List.setIfInBounds_toArray, List.set_cons_zero, List.set_cons_succ]
 refine wpAnyG_takeL (i := 4) (oi := _) (v := ?va4) rfl (by kernel_rfl) (by kernel_rfl) (by kernel_rfl) (by kernel_rfl) (fun _ _ _ h => h) (Or.inl ⟨by rfl, ?ya4⟩) hx5 ?ra4
 case ya4 => (intro W hSw; go_simp; try with_reducible rfl)
 try simp only [Act.put, List.setIfInBounds_toArray, List.set_cons_zero, List.set_cons_succ]
 refine wpAnyG_onlyL (i := 5) (o := _) (by kernel_rfl) rfl (fun K hK => ?_)
 go_simp
 refine hK.out _ _ (fun _ => (S5.out.1.block _ (lt_of_heap S5.out.2.2) (by omega)).trans S5.out.2.2) ?_
 clear hK K
 try simp only [Act.put, List.setIfInBounds_toArray, List.set_cons_zero, List.set_cons_succ]
 refine wpAnyG_onlyL (i := 6) (o := _) (by kernel_rfl) rfl (fun K hK => ?_)
 go_simp
 refine hK.out _ _ (fun _ => (S5.out.1.block _ (lt_of_heap S5.out.2.2) (by omega)).trans S5.out.2.2) ?_
 clear hK K
 try simp only [Act.put, List.setIfInBounds_toArray, List.set_cons_zero, List.set_cons_succ]
 refine wpAnyG_done (by kernel_rfl) ?_ _
 go_simp
 go_wp2_with fail
 have gl := S5.out.2.1
 refine bodyPost_ret (v := .tuple #[.int .i64 y.link, .agg y.m.cells.toArray, .bool true]) ?_ rfl ?_
 ·simp [results, Try.results19, go_sem, gl]
 ·obtain ⟨oo, s2, hone, _, _, b2, hq2, ba2, h1, h5, _, h3, _⟩ := H.out
  obtain ⟨ho4, k4, b5, k5⟩ := N4.out
  have hwl := lt_of_heap h1
  have ow4 : Old w w4 := oo.trans k4
  have k6 : Keeps (fun k => k = w.heap.size) W5 W6 := (Keeps.refl _ W5).drew.trans S5.out.1
  have kk : Keeps (fun k => k = rb ∨ k = w.heap.size) w4 W6 := (k5.weaken (fun _ _ e => .inl e)).trans (k6.weaken (fun _ _ e => .inr e))
  have kw : Keeps (fun k => k = rb) w W6 := (ow4.weaken (T := fun k => k = rb) (fun _ _ f => f.elim)).then kk (fun i hi e => by rcases e with e | e; exact e; omega)
  have hb6 := (k6.block rb (by have := ow4.size; have := k5.size; omega) (by omega)).trans b5
  have hd := hD.out.lt
  have hb2l := lt_of_heap b2
  have ho6 : OwnsR W6 W2.heap.size 100 19 Qy.cells (.slice p4 L.length c4) L := ho4.keeps kk (fun b hb e => by
   have h7 := (ho4.block b hb).1
   rcases e with e | e <;> omega)
  refine ⟨y.m, rfl, rfl, (h5 y (by simp)).to (kw.weaken (fun _ _ e => .inr e)), ?_, kw⟩
  refine ⟨p4, L.length, c4, L, rfl, by simpa using hb6, ho6.sees Qy.len (by decide), fun b hb => ?_, hd.2.1, fun z hz => (h5 z (by simp [hz])).to (kw.weaken (fun _ _ e => .inr e)), fun k t => Nat.lt_of_lt_of_le (hd.2.2 k t) kw.size⟩
  have h7 := ho6.block b hb
  exact ⟨fun t => by have := hd.2.2 b t; omega, by omega, h7.2⟩
end Go.Proofs.Ytiednihagnehlaa

namespace Go.Proofs.Ytiednihagnehlaa
open Go.RowKit

theorem Keeps.drewN25 {S : Nat → Prop} {a b : World} (h : Keeps S a b) (n : Nat) : Keeps S a (b.drewN n) := ⟨h.os, h.tape, h.output, h.size, h.block⟩
attribute [-go_sem] loadVar storeVar
theorem any_none {f : Qy → Bool} {L : List Qy} {i : Nat} {x : Qy} (hx : L[i]? = some x) (h0 : (L.take i).any f = false) (h1 : f x = false) : (L.take (i + 1)).any f = false := by rw [any_take_succ hx, h0, h1]; rfl
theorem any_some {f : Qy → Bool} {L : List Qy} {i : Nat} {x : Qy} (hx : L[i]? = some x) (h1 : f x = true) : L.any f = true := List.any_eq_true.2 ⟨x, List.mem_of_getElem? hx, h1⟩
/-- what the document's Add leaves -/
def RAdd (T : Nat → Prop) (w : World) (rb most : Nat) (P : List (Int × PMs)) (x : Int × PMs) (e : Ending) (w' : World) : Prop :=
 e = .returned (.int .i64 (addP most P x).1) ∧ Dq T w' rb most (addP most P x).2 ∧ Keeps (fun k => k = rb) w w'
set_option maxRecDepth 100000 in
set_option maxHeartbeats 4000000 in
theorem radd_any {T : Nat → Prop} {w : World} {rb most : Nat} {P : List (Int × PMs)} (link : Int) (m : Ms) (h : Dq T w rb most P) (hlen : P.length ≤ 10000) (hst : Steady (fun k => T k ∨ k = rb) w m) :
  Calls Try.prog 18 #[.pointer (some ⟨rb, 0, none⟩), .int .i64 link, .agg m.cells.toArray] w (RAdd T w rb most P (link, m.plain)) := by
 obtain ⟨Wa, hWa⟩ : ∃ W, w.alloc (.cells m.cells.toArray 60) = W := ⟨_, rfl⟩
 have ba : RAt Wa w.heap.size m := by rw [← hWa]; exact heap_alloc_new _ _
 have oa : Old w Wa := by rw [← hWa]; exact (Keeps.refl _ _).alloc _
 have lm := load_whole ba (by simp [Ms.cells]) Try.underlying60 (by kernel_rfl)
 have ck : Wa.cell? ⟨w.heap.size, 0, none⟩ = some (.int .i64 m.kind) := by simp [World.cell?, ba, Ms.cells]
 have CM := Lib.hid (ref21_may_any m Wa (hst.old oa).fine)
 have q1 : ∀ a W, (loadVar 3 a).run Try.prog W = (load a).run Try.prog W := fun _ _ => by kernel_rfl
 have q2 : ∀ a W, (loadVar 28 a).run Try.prog W = (load a).run Try.prog W := fun _ _ => by kernel_rfl
 have q3 : ∀ a W, (loadVar 76 a).run Try.prog W = (load a).run Try.prog W := fun _ _ => by kernel_rfl
 have hrl := h.lt.1
 obtain ⟨p, n, c, L, hL, h1, h2, h3, h4, h5, h6⟩ := id h
 obtain ⟨p', c', e, hle, hmx⟩ := h2.len
 simp only [Value.slice.injEq] at e
 obtain ⟨rfl, rfl, rfl⟩ := e
 obtain ⟨n, hn⟩ : ∃ n, L.length = n := ⟨_, rfl⟩
 have hnP : P.length = n := by rw [← hL, List.length_map, hn]
 obtain ⟨zk, hzk⟩ : ∃ z, (m.kind == 5) = z := ⟨_, rfl⟩
 obtain ⟨zm, hzm⟩ : ∃ z, mayM m.plain = z := ⟨_, rfl⟩
 rw [hzm] at CM
 have ZM := Lib.hid (show mayM (link, m.plain).2 = zm from hzm)
 have ZK := Lib.hid (show ((link, m.plain).2.kind == 5) = zk from hzk)
 have hzk' : (m.kind != 5) = !zk := by rw [← hzk]; rfl
 have hany : L.any (staleQ m.tb m.tl m.tc) = P.any (staleP m.tb m.tl m.tc) := by rw [← hL, List.any_map]; rfl
 obtain ⟨mb, hmb⟩ : ∃ b, w.heap.size = b := ⟨_, rfl⟩
 have H := Lib.hid (And.intro h (And.intro hst (And.intro oa (And.intro ba (And.intro hrl (And.intro h1 (And.intro h2 (And.intro hn (And.intro hnP (And.intro hany (And.intro hlen hmb)))))))))))
 rw [hmb] at lm ck
 have hn4 : n ≤ 10000 := by omega
 clear h hst oa ba hrl h1 h2 h3 h4 h5 h6 hle hmx hL hn hnP hany hlen hzm
 cases zk
 ·go_enter Try.func18, Try.ntmps18
  go_wp2_with fail
  go_ret
  exact ⟨by unfold addP; rw [ZK.out]; rfl, by unfold addP; rw [ZK.out]; exact H.out.1.old H.out.2.2.1, H.out.2.2.1.weaken (fun _ _ f => f.elim)⟩
 cases zm
 ·go_enter Try.func18, Try.ntmps18
  go_wp2_with fail
  refine CM.out.mono ?_
  rintro e w1 ⟨rfl, k1⟩
  have K1 := Lib.hid (H.out.2.2.1.trans k1)
  clear k1
  go_wp2_with fail
  go_ret
  exact ⟨by unfold addP; rw [ZK.out, ZM.out]; rfl, by unfold addP; rw [ZK.out, ZM.out]; exact H.out.1.old K1.out, K1.out.weaken (fun _ _ f => f.elim)⟩
 go_enter Try.func18, Try.ntmps18
 go_wp2_with fail
 refine CM.out.mono ?_
 rintro e w1 ⟨rfl, k1⟩
 have K1 := Lib.hid (And.intro (H.out.2.2.1.trans k1) k1)
 clear k1 hWa hmb
 go_upto_block 0 with fail
 go_cut [] (fun wf => L.any (staleQ m.tb m.tl m.tc) = false ∧ Old w1 wf)
 case first =>
  go_wp2_with fail
  go_loopg [7] n (fun k v7 wr => ∃ i : Nat, i ≤ n ∧ k = n - i ∧ v7 = .int .i64 (i : Int) ∧ (L.take i).any (staleQ m.tb m.tl m.tc) = false ∧ Old w1 wr)
  case atStart => exact ⟨0, Nat.zero_le _, rfl, rfl, rfl, Keeps.refl _ _⟩
  case round =>
   obtain ⟨i, hi, rfl, rfl, hnone, hk⟩ := hrel
   obtain ⟨wo, rfl⟩ : ∃ wo : World, wo = wr := ⟨_, rfl⟩
   have kw : Old w wo := K1.out.1.trans hk
   obtain ⟨g0', g1', f0', f1'⟩ := blkQu ((kw.block rb (lt_of_heap H.out.2.2.2.2.2.1) (fun f => f)).trans H.out.2.2.2.2.2.1)
   rw [H.out.2.2.2.2.2.2.2.1] at g1'
   have R := Lib.hid (And.intro hnone (And.intro hk kw))
   clear hnone hk kw lm ck
   by_cases hlt : i < n
   ·have z1 : decide ((i : Int) < (n : Int)) = true := by simp; omega
    have z2 : (0 : Int) ≤ (i : Int) := by omega
    have z3 : (i : Int) < (n : Int) := by omega
    obtain ⟨x, hx⟩ : ∃ x, L[i]? = some x := ⟨_, List.getElem?_eq_getElem (by rw [H.out.2.2.2.2.2.2.2.1]; exact hlt)⟩
    obtain ⟨b0, o0, c0, he, _, _, hat⟩ := (H.out.2.2.2.2.2.2.1.old R.out.2.2).at (by rw [H.out.2.2.2.2.2.2.2.1]; omega)
    rw [H.out.2.2.2.2.2.2.2.1] at he
    simp only [Value.slice.injEq, true_and] at he
    obtain ⟨he1, rfl⟩ := he
    rw [he1] at g1'
    have hxc := hat i x hx
    have lt := tokR_cells hxc
    obtain ⟨wa, hwa⟩ : ∃ W, wo.alloc (.cells #[.int .i64 0, .int .u64 0, .int .u64 0] 45) = W := ⟨_, rfl⟩
    have bt0 : wa.heap[wo.heap.size]? = some (.cells #[.int .i64 0, .int .u64 0, .int .u64 0] 45 (0, 0)) := by rw [← hwa]; exact heap_alloc_new _ _
    have oa : Old wo wa := by rw [← hwa]; exact (Keeps.refl _ _).alloc _
    obtain ⟨wt, hst, bt, kt⟩ := store_cells (o := 0) (ty := 45) bt0 #[.int .i64 x.m.tb, .int .u64 (x.m.tl : Int), .int .u64 (x.m.tc : Int)] (by simp) (by kernel_rfl) (by simp [Value.oneCell']) (putRange_whole (by simp))
    have ot : Old wo wt := oa.then kt (fun j hj e => by omega)
    have t0 : wt.cell? ⟨wo.heap.size, 0, none⟩ = some (.int .i64 x.m.tb) := by simp [World.cell?, bt]
    have t1 : wt.cell? ⟨wo.heap.size, 1, none⟩ = some (.int .u64 (x.m.tl : Int)) := by simp [World.cell?, bt]
    have t2 : wt.cell? ⟨wo.heap.size, 2, none⟩ = some (.int .u64 (x.m.tc : Int)) := by simp [World.cell?, bt]
    have bm := (ot.block _ (by have := lt_of_heap H.out.2.2.2.1; have := K1.out.2.size; have := R.out.2.1.size; omega) (fun f => f)).trans ((R.out.2.1.block _ (by have := lt_of_heap H.out.2.2.2.1; have := K1.out.2.size; omega) (fun f => f)).trans ((K1.out.2.block _ (lt_of_heap H.out.2.2.2.1) (fun f => f)).trans H.out.2.2.2.1))
    rw [H.out.2.2.2.2.2.2.2.2.2.2.2] at bm
    have m9 : wt.cell? ⟨mb, 9, none⟩ = some (.int .i64 m.tb) := by simp [World.cell?, bm, Ms.cells]
    have m10 : wt.cell? ⟨mb, 10, none⟩ = some (.int .u64 (m.tl : Int)) := by simp [World.cell?, bm, Ms.cells]
    have m11 : wt.cell? ⟨mb, 11, none⟩ = some (.int .u64 (m.tc : Int)) := by simp [World.cell?, bm, Ms.cells]
    have OT := Lib.hid (And.intro ot hx)
    clear bt0 oa bt kt ot bm hx hat hxc he1
    cases y0 : (x.m.tb == m.tb)
    ·have HS := Lib.hid (show staleQ m.tb m.tl m.tc x = false by unfold staleQ; rw [y0]; rfl)
     go_wp2_with fail
     go_roundg (n - (i + 1))
     case measure => omega
     case rel => exact ⟨i + 1, by omega, rfl, by go_num, any_none OT.out.2 R.out.1 HS.out, R.out.2.1.trans OT.out.1⟩
    obtain ⟨y1, hy1⟩ : ∃ z, decide ((m.tl : Int) < (x.m.tl : Int)) = z := ⟨_, rfl⟩
    have hy1' : decide (m.tl < x.m.tl) = y1 := by rw [← hy1]; simp
    cases y1
    case true =>
     have HS := Lib.hid (show staleQ m.tb m.tl m.tc x = true by unfold staleQ; rw [y0, hy1']; rfl)
     go_wp2_with fail
     go_ret
     exact ⟨by unfold addP; rw [ZK.out, ZM.out, show P.any (staleP (link, m.plain).2.tb (link, m.plain).2.tl (link, m.plain).2.tc) = true from (H.out.2.2.2.2.2.2.2.2.2.1.symm.trans (any_some OT.out.2 HS.out))]; rfl, by unfold addP; rw [ZK.out, ZM.out, show P.any (staleP (link, m.plain).2.tb (link, m.plain).2.tl (link, m.plain).2.tc) = true from (H.out.2.2.2.2.2.2.2.2.2.1.symm.trans (any_some OT.out.2 HS.out))]; exact H.out.1.old (R.out.2.2.trans OT.out.1), (R.out.2.2.trans OT.out.1).weaken (fun _ _ f => f.elim)⟩
    obtain ⟨y2, hy2⟩ : ∃ z, ((m.tl : Int) == (x.m.tl : Int)) = z := ⟨_, rfl⟩
    have hy2' : (x.m.tl == m.tl) = y2 := by rw [← hy2, Bool.eq_iff_iff]; simp; omega
    have hy2'' : (m.tl == x.m.tl) = y2 := by rw [← hy2, Bool.eq_iff_iff]; simp; omega
    cases y2
    case false =>
     have HS := Lib.hid (show staleQ m.tb m.tl m.tc x = false by unfold staleQ; rw [y0, hy1', hy2']; rfl)
     go_wp2_with fail
     go_roundg (n - (i + 1))
     case measure => omega
     case rel => exact ⟨i + 1, by omega, rfl, by go_num, any_none OT.out.2 R.out.1 HS.out, R.out.2.1.trans OT.out.1⟩
    obtain ⟨y3, hy3⟩ : ∃ z, ((m.tc : Int) == (x.m.tc : Int)) = z := ⟨_, rfl⟩
    have hy3' : (x.m.tc == m.tc) = y3 := by rw [← hy3, Bool.eq_iff_iff]; simp; omega
    have hy3'' : (m.tc == x.m.tc) = y3 := by rw [← hy3, Bool.eq_iff_iff]; simp; omega
    cases y3
    case false =>
     have HS := Lib.hid (show staleQ m.tb m.tl m.tc x = false by unfold staleQ; rw [y0, hy1', hy2', hy3']; rfl)
     go_wp2_with fail
     go_roundg (n - (i + 1))
     case measure => omega
     case rel => exact ⟨i + 1, by omega, rfl, by go_num, any_none OT.out.2 R.out.1 HS.out, R.out.2.1.trans OT.out.1⟩
    have HS := Lib.hid (show staleQ m.tb m.tl m.tc x = true by unfold staleQ; rw [y0, hy1', hy2', hy3']; rfl)
    go_wp2_with fail
    go_ret
    exact ⟨by unfold addP; rw [ZK.out, ZM.out, show P.any (staleP (link, m.plain).2.tb (link, m.plain).2.tl (link, m.plain).2.tc) = true from (H.out.2.2.2.2.2.2.2.2.2.1.symm.trans (any_some OT.out.2 HS.out))]; rfl, by unfold addP; rw [ZK.out, ZM.out, show P.any (staleP (link, m.plain).2.tb (link, m.plain).2.tl (link, m.plain).2.tc) = true from (H.out.2.2.2.2.2.2.2.2.2.1.symm.trans (any_some OT.out.2 HS.out))]; exact H.out.1.old (R.out.2.2.trans OT.out.1), (R.out.2.2.trans OT.out.1).weaken (fun _ _ f => f.elim)⟩
   ·obtain rfl : i = n := by omega
    have z1 : decide ((i : Int) < (i : Int)) = false := by simp
    clear hlt
    go_wp2_with fail
    go_meet
    case rel =>
     have := R.out.1
     rw [List.take_of_length_le (by rw [H.out.2.2.2.2.2.2.2.1]; exact Nat.le_refl _)] at this
     exact ⟨this, R.out.2.1⟩
 case rest =>
  obtain ⟨hnone, hk⟩ := hcut
  obtain ⟨wo, rfl⟩ : ∃ wo : World, wo = wc := ⟨_, rfl⟩
  have kw : Old w wo := K1.out.1.trans hk
  have ZS := Lib.hid (show P.any (staleP (link, m.plain).2.tb (link, m.plain).2.tl (link, m.plain).2.tc) = false from (by rw [← hnone]; exact H.out.2.2.2.2.2.2.2.2.2.1.symm))
  have ba2 := (hk.block _ (by have := lt_of_heap H.out.2.2.2.1; have := K1.out.2.size; omega) (fun f => f)).trans ((K1.out.2.block _ (lt_of_heap H.out.2.2.2.1) (fun f => f)).trans H.out.2.2.2.1)
  rw [H.out.2.2.2.2.2.2.2.2.2.2.2] at ba2
  have m9 : wo.cell? ⟨mb, 9, none⟩ = some (.int .i64 m.tb) := by simp [World.cell?, ba2, Ms.cells]
  have m10 : wo.cell? ⟨mb, 10, none⟩ = some (.int .u64 (m.tl : Int)) := by simp [World.cell?, ba2, Ms.cells]
  have DD := Lib.hid (rdrop_any m.tb m.tl (H.out.1.old kw) H.out.2.2.2.2.2.2.2.2.2.2.1)
  obtain ⟨P2, hP2⟩ : ∃ P2, (P.filter fun y => !dropP m.tb m.tl y) = P2 := ⟨_, rfl⟩
  have hl2 : P2.length ≤ 10000 := by rw [← hP2]; exact Nat.le_trans (List.length_filter_le _ _) H.out.2.2.2.2.2.2.2.2.2.2.1
  rw [hP2] at DD
  obtain ⟨zf, hzf⟩ : ∃ z, decide (most ≤ P2.length) = z := ⟨_, rfl⟩
  have dl : decide ((P2.length : Int) ≥ (most : Int)) = zf := by rw [← hzf]; simp
  have ZF := Lib.hid (show decide (most ≤ (P.filter fun y => !dropP (link, m.plain).2.tb (link, m.plain).2.tl y).length) = zf from (by rw [← hzf, ← hP2]; rfl))
  have HP2 := Lib.hid (And.intro (show (P.filter fun y => !dropP (link, m.plain).2.tb (link, m.plain).2.tl y) = P2 from hP2) hl2)
  have KW := Lib.hid (And.intro kw ba2)
  clear hnone hk kw ba2 hP2 hl2 lm ck
  go_upto_region 10 with (go_at_call 23; refine DD.out.mono ?_; rintro e w3 ⟨rfl, d3, k3⟩)
  have d3d := d3
  obtain ⟨p3, n3, c3, L3, hL3, e1, e2, e3, e4, e5, e6⟩ := d3d
  obtain ⟨p', c', e, hle3, hmx3⟩ := e2.len
  simp only [Value.slice.injEq] at e
  obtain ⟨rfl, rfl, rfl⟩ := e
  have hL3l : L3.length = P2.length := by rw [← hL3, List.length_map]
  rw [hL3l] at e1 e2
  obtain ⟨g0, g1, f0, f1⟩ := blkQu e1
  have D3 := Lib.hid (And.intro d3 (And.intro k3 (And.intro hL3 (And.intro e1 (And.intro e2 (And.intro e5 hL3l))))))
  clear d3 k3 hL3 e1 e2 e3 e4 e5 e6 hle3 hmx3 hL3l m9 m10
  go_quiet (fail)
  cases zf
  case true =>
   go_wp2_with fail
   go_ret
   exact ⟨by unfold addP; rw [ZK.out, ZM.out, ZS.out, ZF.out]; rfl, by unfold addP; rw [ZK.out, ZM.out, ZS.out, ZF.out]; rw [show (if true = true then if true = true then if false = true then ((9 : Int), P) else if true = true then (7, P.filter fun y => !dropP (link, m.plain).2.tb (link, m.plain).2.tl y) else (0, (P.filter fun y => !dropP (link, m.plain).2.tb (link, m.plain).2.tl y) ++ [(link, m.plain)]) else (30, P) else (30, P)).2 = P.filter fun y => !dropP (link, m.plain).2.tb (link, m.plain).2.tl y from rfl, HP2.out.1]; exact D3.out.1.old ((Keeps.refl (fun _ => False) w3).drewN25 _), ((KW.out.1.weaken (fun _ _ f => f.elim)).trans D3.out.2.1).trans ((Keeps.refl _ w3).drewN25 _)⟩
  case false =>
   obtain ⟨wd, hwd⟩ : ∃ wd, w3.drewN nq = wd := ⟨_, rfl⟩
   rw [hwd]
   have kd : Old w3 wd := by rw [← hwd]; exact (Keeps.refl _ w3).drewN25 _
   have dd := D3.out.1.old kd
   have e1 := (kd.block _ (lt_of_heap D3.out.2.2.2.1) (fun f => f)).trans D3.out.2.2.2.1
   have e2 := D3.out.2.2.2.2.1.old kd
   have hmbr : mb ≠ rb := by have := H.out.2.2.2.2.1; have := H.out.2.2.2.2.2.2.2.2.2.2.2; omega
   have kwd : Keeps (fun k => k = rb) wo wd := D3.out.2.1.trans (kd.weaken (fun _ _ f => f.elim))
   have bm := (kwd.block _ (lt_of_heap KW.out.2) hmbr).trans KW.out.2
   have k0 : Keeps (fun k => k = rb) w wd := (KW.out.1.weaken (fun _ _ f => f.elim)).trans kwd
   have stm : Steady (fun k => T k ∨ k = rb) wd m := H.out.2.1.to (k0.weaken (fun _ _ e => .inr e))
   have hone3 : ∀ z ∈ L3, ∀ u ∈ z.cells, u.oneCell' = true := fun z hz u hu => by
    have := (D3.out.2.2.2.2.2.1 z hz).fine.one
    rw [Array.all_eq_true_iff_forall_mem] at this
    rcases List.mem_cons.1 hu with rfl | hu
    ·rfl
    ·exact this u (by simpa using hu)
   have honem : ∀ u ∈ (⟨link, m⟩ : Qy).cells, u.oneCell' = true := fun u hu => by
    have := stm.fine.one
    rw [Array.all_eq_true_iff_forall_mem] at this
    rcases List.mem_cons.1 hu with rfl | hu
    ·rfl
    ·exact this u (by simpa using hu)
   obtain ⟨g0, g1, f0, f1⟩ := blkQu e1
   have lx : ([] : List Qy).length + L3.length ≤ maxLen := by have := D3.out.2.2.2.2.2.2; have := HP2.out.2; unfold maxLen; simp; omega
   have lx2 : (([] : List Qy).length + L3.length) * 224 ≤ 140737488355328 := by have := D3.out.2.2.2.2.2.2; have := HP2.out.2; simp; omega
   have ly : L3.length + [(⟨link, m⟩ : Qy)].length ≤ maxLen := by have := D3.out.2.2.2.2.2.2; have := HP2.out.2; unfold maxLen; simp; omega
   have ly2 : (L3.length + [(⟨link, m⟩ : Qy)].length) * 224 ≤ 140737488355328 := by have := D3.out.2.2.2.2.2.2; have := HP2.out.2; simp; omega
   have F := Lib.hid (And.intro dd (And.intro e1 (And.intro e2 (And.intro bm (And.intro k0 (And.intro stm (And.intro hone3 (And.intro honem (And.intro lx (And.intro lx2 (And.intro ly (And.intro ly2 (And.intro kd hmbr)))))))))))))
   clear hwd kd dd e1 e2 kwd bm k0 stm hone3 honem lx lx2 ly ly2 hmbr
   go_upto_region 14 with (at_builtin; refine wpList_append_rows (P := Try.prog) rfl _ _ 76 rfl wd.heap.size 100 19 224 Qy.cells _ Try.underlying76 Try.infoRq rfl (by decide) (.slice none 0 0) ([] : List Qy) (by rfl) (OwnsR.nil _ _) _ L3 (by rfl) F.out.2.2.1 (fun _ _ => rfl) F.out.2.2.2.2.2.2.1 F.out.2.2.2.2.2.2.2.2.1 F.out.2.2.2.2.2.2.2.2.2.1 (Nat.le_refl _) ?_; intro v4 w4 ho4 hg4 hv4; rw [List.nil_append] at ho4; have k4 : Old wd w4 := (Keeps.refl (fun _ => False) wd).then (T := fun j => some j = (Value.slice none 0 0).ownBlock) ⟨hg4.os, hg4.tape, hg4.output, hg4.size, fun j hj hne => hg4.block j hj hne⟩ (fun j hj e => by cases e); obtain ⟨p4, c4, e4, _, _⟩ := (ho4.sees Qy.len (by decide)).len; subst e4; have N4 := Lib.hid (And.intro ho4 k4); clear ho4 hg4 hv4 k4)
   have bm4 := (N4.out.2.block _ (lt_of_heap F.out.2.2.2.1) (fun f => f)).trans F.out.2.2.2.1
   have lm4 := load_whole bm4 (by simp [Ms.cells]) Try.underlying60 (by kernel_rfl)
   obtain ⟨y, hy⟩ : ∃ y : Qy, y = ⟨link, m⟩ := ⟨_, rfl⟩
   obtain ⟨ws, hws⟩ : ∃ W, w4.alloc (.cells (⟨link, m⟩ : Qy).cells.toArray 100) = W := ⟨_, rfl⟩
   have os : Old w4 ws := by rw [← hws]; exact (Keeps.refl _ _).alloc _
   have sn : SeesR ws 19 Qy.cells (.slice (some ⟨w4.heap.size, 0, none⟩) 1 1) [y] := by
    rw [← hws, hy]
    exact SeesR.new (k := 19) (enc := Qy.cells) _ _ (0, 0) [(⟨link, m⟩ : Qy)] _ (by simp) Qy.len (by unfold maxLen; simp)
   have hx1 : ∀ z ∈ [y], ∀ u ∈ Qy.cells z, u.oneCell' = true := fun z hz => by rw [List.mem_singleton.1 hz, hy]; exact F.out.2.2.2.2.2.2.2.1
   have hls : wd.heap.size ≤ ws.heap.size := Nat.le_trans N4.out.2.size os.size
   have ly : L3.length + [y].length ≤ maxLen := by rw [hy]; exact F.out.2.2.2.2.2.2.2.2.2.2.1
   have ly2 : (L3.length + [y].length) * 224 ≤ 140737488355328 := by rw [hy]; exact F.out.2.2.2.2.2.2.2.2.2.2.2.1
   have hes := ((N4.out.2.trans os).block _ (lt_of_heap F.out.2.1) (fun f => f)).trans F.out.2.1
   have NN := Lib.hid (And.intro (N4.out.1.old os) (And.intro sn (And.intro hx1 (And.intro ly (And.intro ly2 (And.intro hls (And.intro (N4.out.2.trans os) hes)))))))
   clear bm4 os sn hx1 hls ly ly2 hes g0 g1 f0 f1
   obtain ⟨kind, pub, ver, there, pv, ps, ⟨nn, tm, key, av, es⟩, tb, tl, tc, frm, ⟨fr, en, iv, its, gv, gs, last⟩⟩ := m
   obtain ⟨pp, pc, pe⟩ : ∃ a c, pv = .slice a ps.length c := by obtain ⟨a, c, e, _⟩ := F.out.2.2.2.2.2.1.fine.1.1.1.len; exact ⟨a, c, e⟩
   obtain ⟨ap, ac, ae⟩ : ∃ a c, av = .slice a es.length c := by obtain ⟨a, c, e, _⟩ := F.out.2.2.2.2.2.1.fine.2.1.1.len; exact ⟨a, c, e⟩
   obtain ⟨ip, ic, ie⟩ : ∃ a c, iv = .slice a its.length c := by obtain ⟨a, c, e, _⟩ := F.out.2.2.2.2.2.1.fine.2.2.1.1.1.len; exact ⟨a, c, e⟩
   obtain ⟨gp, gc, ge⟩ : ∃ a c, gv = .slice a gs.length c := by obtain ⟨a, c, e, _⟩ := F.out.2.2.2.2.2.1.fine.2.2.1.1.2.2.len; exact ⟨a, c, e⟩
   subst pe ae ie ge
   simp only [Qy.cells, Ms.cells, List.toArray] at lm4 hws
   have HY := Lib.hid hy
   clear hy
   go_wp2_with (at_builtin; refine wpList_append_rows (P := Try.prog) rfl _ _ 76 rfl wd.heap.size 100 19 224 Qy.cells _ Try.underlying76 Try.infoRq rfl (by decide) (.slice p4 L3.length c4) L3 (by rfl) NN.out.1 _ [y] (by rfl) NN.out.2.1 (fun _ _ => rfl) NN.out.2.2.1 NN.out.2.2.2.1 NN.out.2.2.2.2.1 NN.out.2.2.2.2.2.1 ?_; intro v5 w5 ho5 hg5 hv5; have k5 : Old wd w5 := NN.out.2.2.2.2.2.2.1.then (T := fun j => some j = (Value.slice p4 L3.length c4).ownBlock) ⟨hg5.os, hg5.tape, hg5.output, hg5.size, fun j hj hne => hg5.block j hj hne⟩ (fun j hj e => by have := (N4.out.1.block j e.symm).1; omega); obtain ⟨p5, c5, e5, _, _⟩ := (ho5.sees Qy.len (by decide)).len; obtain ⟨l5, hl5⟩ : ∃ l, (L3 ++ [y]).length = l := ⟨_, rfl⟩; rw [hl5] at e5; subst e5; have hb5 := (k5.block _ (lt_of_heap F.out.2.1) (fun f => f)).trans F.out.2.1; obtain ⟨W6, hst6, b6, k6⟩ := store_cell (o := 1) (ty := 76) hb5 (.slice p5 l5 c5) rfl (by simp) (by kernel_rfl) rfl rfl; have N5 := Lib.hid (And.intro ho5 (And.intro k5 (And.intro b6 k6))); clear ho5 hg5 hv5 k5 hl5 hb5 b6 k6)
   go_ret
   obtain ⟨dd, _, _, _, k0, stm, _⟩ := F.out
   have e9 : addP most P (link, (⟨kind, pub, ver, there, .slice pp ps.length pc, ps, ⟨nn, tm, key, .slice ap es.length ac, es⟩, tb, tl, tc, frm, ⟨fr, en, .slice ip its.length ic, its, .slice gp gs.length gc, gs, last⟩⟩ : Ms).plain) = (0, P2 ++ [y.plain]) := by
    unfold addP
    rw [ZK.out, ZM.out, ZS.out, ZF.out, HP2.out.1, HY.out]
    rfl
   obtain ⟨d1, d2⟩ := dd.put (P' := P2 ++ [y.plain]) N5.out.2.1 N5.out.1 (by rw [List.map_append, D3.out.2.2.1]; rfl) (fun z hz => by
    rcases List.mem_append.1 hz with hz | hz
    ·exact (D3.out.2.2.2.2.2.1 z hz).to (F.out.2.2.2.2.2.2.2.2.2.2.2.2.1.weaken (fun _ _ f => f.elim))
    ·rw [List.mem_singleton.1 hz, HY.out]; exact stm) N5.out.2.2.2 (by simpa using N5.out.2.2.1)
   unfold RAdd
   rw [e9]
   exact ⟨rfl, d1, k0.trans d2⟩
end Go.Proofs.Ytiednihagnehlaa
