/- DERIVED. Chapter 25: the document's queue: New, Drop, Forget. (gen_qr.py wrote it) -/
import Derived.Test.YtiednihagnehlaaY24
import Derived.Test.YtiednihagnehlaaZPagesPlays01
import Derived.Test.YtiednihagnehlaaZPagesPlays02
import Derived.Deep.LoopGhost
namespace Go.Proofs.Ytiednihagnehlaa
open Go.RowKit

/-- the document's queue at block rb; T is what others write -/
def Dq (T : Nat → Prop) (w : World) (rb most : Nat) (P : List (Int × PMs)) : Prop :=
 ∃ (p : Option Addr) (n c : Nat) (L : List Qy), L.map Qy.plain = P ∧ w.heap[rb]? = some (.cells #[.int .i64 (most : Int), .slice p n c] 78 (0, 0)) ∧ SeesQ w (.slice p n c) L ∧
  (∀ b, (Value.slice p n c).ownBlock = some b → ¬ T b ∧ b ≠ rb ∧ b < w.heap.size) ∧ ¬ T rb ∧ (∀ x ∈ L, Steady (fun k => T k ∨ k = rb) w x.m) ∧ ∀ k, T k → k < w.heap.size
/-- others worked -/
theorem Dq.to {T T' : Nat → Prop} {w w' : World} {rb most : Nat} {P : List (Int × PMs)} (h : Dq T w rb most P) (hk : Keeps T w w') (hT : ∀ k, T' k → T k ∨ w.heap.size ≤ k) (hz : ∀ k, T' k → k < w'.heap.size) : Dq T' w' rb most P := by
 obtain ⟨p, n, c, L, e, h1, h2, h3, h4, h5, h6⟩ := h
 have hlt := lt_of_heap h1
 refine ⟨p, n, c, L, e, (hk.block rb hlt h4).trans h1, h2.keeps hk (fun b hb => (h3 b hb).1), fun b hb => ⟨fun t => ?_, (h3 b hb).2.1, Nat.lt_of_lt_of_le (h3 b hb).2.2 hk.size⟩, fun t => ?_, fun x hx => ?_, hz⟩
 ·rcases hT b t with t | t
  ·exact (h3 b hb).1 t
  ·have := (h3 b hb).2.2; omega
 ·rcases hT rb t with t | t
  ·exact h4 t
  ·omega
 ·refine fun W hW => h5 x hx W ((hk.weaken (T := fun k => T k ∨ k = rb) (fun _ _ t => .inl t)).then hW (fun k hlt t => ?_))
  rcases t with t | t
  ·rcases hT k t with t | t
   ·exact .inl t
   ·omega
  ·exact .inr t
theorem Dq.old {T : Nat → Prop} {w w' : World} {rb most : Nat} {P : List (Int × PMs)} (h : Dq T w rb most P) (hk : Old w w') : Dq T w' rb most P := by
 have h6 : ∀ k, T k → k < w.heap.size := by obtain ⟨_, _, _, _, _, _, _, _, _, _, h6⟩ := h; exact h6
 exact h.to (hk.weaken (fun _ _ f => f.elim)) (fun _ t => .inl t) (fun k t => Nat.lt_of_lt_of_le (h6 k t) hk.size)
theorem Dq.lt {T : Nat → Prop} {w : World} {rb most : Nat} {P : List (Int × PMs)} (h : Dq T w rb most P) : rb < w.heap.size ∧ ¬ T rb ∧ ∀ k, T k → k < w.heap.size := by
 obtain ⟨_, _, _, _, _, h1, _, _, h4, _, h6⟩ := h
 exact ⟨lt_of_heap h1, h4, h6⟩
/-- the document worked: its rows are new ones -/
theorem Dq.put {T : Nat → Prop} {w w1 w2 : World} {rb most : Nat} {P P' : List (Int × PMs)} {p : Option Addr} {n c : Nat} {L' : List Qy} (h : Dq T w rb most P) (o : Old w w1) (hr : OwnsR w1 w.heap.size 100 19 Qy.cells (.slice p n c) L') (hp : L'.map Qy.plain = P')
  (hs : ∀ x ∈ L', Steady (fun k => T k ∨ k = rb) w x.m) (hk : Keeps (fun k => k = rb) w1 w2) (hb : w2.heap[rb]? = some (.cells #[.int .i64 (most : Int), .slice p n c] 78 (0, 0))) : Dq T w2 rb most P' ∧ Keeps (fun k => k = rb) w w2 := by
 obtain ⟨h1, h2, h3⟩ := h.lt
 have hz := o.size
 have hz2 := hk.size
 have k2 : Keeps (fun k => k = rb) w w2 := (o.weaken (fun _ _ f => f.elim)).trans hk
 refine ⟨⟨p, n, c, L', hp, hb, (hr.sees Qy.len (by decide)).keeps hk (fun b hb e => by have := (hr.block b hb).1; omega), fun b hb => ⟨fun t => ?_, fun e => ?_, ?_⟩, h2, fun x hx => ?_, fun k t => ?_⟩, k2⟩
 ·have := (hr.block b hb).1; have := h3 b t; omega
 ·have := (hr.block b hb).1; omega
 ·have := (hr.block b hb).2; omega
 ·exact (hs x hx).to (k2.weaken (fun _ _ e => .inr e))
 ·have := h3 k t; omega

theorem rnew_yes (most : Nat) (w : World) (h : 1 ≤ most ∧ most ≤ 4096) : Calls Try.prog 16 #[.int .i64 (most : Int)] w fun e w' => e = .returned (.tuple #[.pointer (some ⟨w.heap.size, 0, none⟩), .int .i64 0]) ∧ Old w w' ∧
  ∀ T : Nat → Prop, (∀ k, T k → k < w.heap.size) → Dq T w' w.heap.size most [] := by
 have d1 : decide ((most : Int) < 1) = false := by simp; omega
 have d2 : decide ((most : Int) > 4096) = false := by simp; omega
 have X := Lib.hid h
 clear h
 go_enter Try.func16, Try.ntmps16
 go_wp2_with fail
 go_ret2
 refine ⟨rfl, (Keeps.refl _ _).alloc _, fun T hT => ⟨none, 0, 0, [], rfl, heap_alloc_new _ _, SeesR.nil _, (fun b hb => by cases hb), fun ht => by have := hT _ ht; omega, (fun x hx => by cases hx), fun k ht => by have := hT k ht; simp; omega⟩⟩
theorem rnew_no (most : Int) (w : World) (h : most < 1 ∨ 4096 < most) : Calls Try.prog 16 #[.int .i64 most] w fun e w' => e = .returned (.tuple #[.pointer none, .int .i64 1]) ∧ w = w' := by
 by_cases h1 : most < 1
 ·have d1 : decide (most < 1) = true := by simp; omega
  clear h h1
  go_enter Try.func16, Try.ntmps16
  go_wp2_with fail
  go_ret2
  exact ⟨rfl, rfl⟩
 ·have d1 : decide (most < 1) = false := by simp; omega
  have d2 : decide (most > 4096) = true := by simp; omega
  clear h h1
  go_enter Try.func16, Try.ntmps16
  go_wp2_with fail
  go_ret2
  exact ⟨rfl, rfl⟩
theorem load_rq {w : World} {b o : Nat} {x : Qy} (h : ∀ i u, x.cells[i]? = some u → w.cell? ⟨b, o + i, none⟩ = some u) : (loadVar 100 ⟨b, o, none⟩).run Try.prog w = .ok (.agg x.cells.toArray) w :=
 load_sub (cs := x.cells.toArray) (fun j v hv => h j v (by simpa using hv)) Try.underlying100 rfl (by kernel_rfl)
theorem Try.infoRq : (Try.prog.info? 100).map (fun i => (i.zero, i.size, i.bytes)) = some (some (.agg zeroQ.cells.toArray), 19, 224) := by kernel_rfl
theorem keep_succ {pr : Qy → Bool} {L : List Qy} {i : Nat} {x : Qy} (h : L[i]? = some x) : ((L.take (i + 1)).filter fun y => !pr y) = ((L.take i).filter fun y => !pr y) ++ (if pr x = true then [] else [x]) := by
 rw [List.take_add_one, h, List.filter_append]
 cases hp : pr x <;> simp [hp]
theorem tokR_cells {w : World} {b o i : Nat} {x : Qy} (h : ∀ j u, x.cells[j]? = some u → w.cell? ⟨b, o + i * 19 + j, none⟩ = some u) : (loadVar 45 ⟨b, o + i * 19 + 1 + 9, none⟩).run Try.prog w = .ok (.agg #[.int .i64 x.m.tb, .int .u64 (x.m.tl : Int), .int .u64 (x.m.tc : Int)]) w :=
 load_sub (cs := #[.int .i64 x.m.tb, .int .u64 (x.m.tl : Int), .int .u64 (x.m.tc : Int)]) (fun j v hv => by
  rcases j with _ | _ | _ | j
  ·have := h 10 _ rfl; simp at hv; subst hv; simpa [Nat.add_assoc] using this
  ·have := h 11 _ rfl; simp at hv; subst hv; simpa [Nat.add_assoc] using this
  ·have := h 12 _ rfl; simp at hv; subst hv; simpa [Nat.add_assoc] using this
  ·simp at hv) Try.underlying45 rfl (by kernel_rfl)
attribute [-go_sem] loadVar storeVar
set_option maxRecDepth 100000 in
set_option maxHeartbeats 2000000 in
theorem rdrop_any {T : Nat → Prop} {w : World} {rb most : Nat} {P : List (Int × PMs)} (b : Int) (l : Nat) (h : Dq T w rb most P) (hlen : P.length ≤ 10000) :
  Calls Try.prog 23 #[.pointer (some ⟨rb, 0, none⟩), .int .i64 b, .int .u64 (l : Int)] w fun e w' => e = .returned (.int .i64 ((P.length - (P.filter fun y => !dropP b l y).length : Nat) : Int)) ∧ Dq T w' rb most (P.filter fun y => !dropP b l y) ∧ Keeps (fun k => k = rb) w w' := by
 have hD := Lib.hid h
 obtain ⟨p, n, c, L, hL, h1, h2, h3, h4, h5, h6⟩ := h
 obtain ⟨p', c', e, hle, hmx⟩ := h2.len
 simp only [Value.slice.injEq] at e
 obtain ⟨rfl, rfl, rfl⟩ := e
 have hLl : L.length ≤ 10000 := by rw [← List.length_map (f := Qy.plain), hL]; exact hlen
 have hfl := map_filter (pr := dropQ b l) (pp := dropP b l) (fun x => rfl) L
 rw [hL] at hfl
 have hone : ∀ x ∈ L, ∀ u ∈ x.cells, u.oneCell' = true := fun x hx u hu => by
  have := (h5 x hx).fine.one
  rw [Array.all_eq_true_iff_forall_mem] at this
  rcases List.mem_cons.1 hu with rfl | hu
  ·rfl
  ·exact this u (by simpa using hu)
 have q1 : ∀ a W, (loadVar 3 a).run Try.prog W = (load a).run Try.prog W := fun _ _ => by kernel_rfl
 have q2 : ∀ a W, (loadVar 28 a).run Try.prog W = (load a).run Try.prog W := fun _ _ => by kernel_rfl
 have q3 : ∀ a W, (loadVar 76 a).run Try.prog W = (load a).run Try.prog W := fun _ _ => by kernel_rfl
 obtain ⟨g0, g1, f0, f1⟩ := blkQu h1
 obtain ⟨n, hn⟩ : ∃ n, L.length = n := ⟨_, rfl⟩
 have hpn : P.length = n := by rw [← hL, List.length_map, hn]
 have H := Lib.hid (And.intro hL (And.intro h1 (And.intro h2 (And.intro h5 (And.intro hfl (And.intro hone (And.intro hn (And.intro hpn hLl))))))))
 rw [hn] at g1
 have hn4 : n ≤ 10000 := by omega
 clear hlen hL h1 h2 h3 h4 h5 h6 hle hmx hLl hfl hone hn hpn
 go_enter Try.func23, Try.ntmps23
 go_wp2_with fail
 go_loopg [7, 8, 9] n (fun k vl vn vi wr => ∃ (i : Nat) (F : List Qy), i ≤ n ∧ k = n - i ∧ vi = .int .i64 (i : Int) ∧ F = ((L.take i).filter fun y => !dropQ b l y) ∧ vn = .int .i64 ((i - F.length : Nat) : Int) ∧ OwnsR wr w.heap.size 100 19 Qy.cells vl F ∧ Old w wr)
 case atStart => exact ⟨0, [], Nat.zero_le _, rfl, rfl, rfl, rfl, OwnsR.nil _ _, Keeps.refl _ _⟩
 case round =>
  obtain ⟨i, F, hi, rfl, rfl, hF, rfl, ho, hk⟩ := hrel
  obtain ⟨wo, rfl⟩ : ∃ wo : World, wo = wr := ⟨_, rfl⟩
  have hFl : F.length ≤ i := by rw [hF]; exact Nat.le_trans (List.length_filter_le _ _) (by rw [List.length_take]; exact Nat.min_le_left _ _)
  obtain ⟨pl, cl, rfl, _, _⟩ := (ho.sees Qy.len (by decide)).len
  obtain ⟨fn, hfn⟩ : ∃ m, F.length = m := ⟨_, rfl⟩
  rw [hfn] at ho hFl ⊢
  obtain ⟨g0', g1', f0', f1'⟩ := blkQu ((hk.block rb (lt_of_heap H.out.2.1) (fun f => f)).trans H.out.2.1)
  rw [H.out.2.2.2.2.2.2.1] at g1'
  have R := Lib.hid (And.intro hF (And.intro ho (And.intro hk (And.intro hfn (And.intro hFl hi)))))
  clear hF ho hk hfn
  by_cases hlt : i < n
  ·have z1 : decide ((i : Int) < (n : Int)) = true := by simp; omega
   have z2 : (0 : Int) ≤ (i : Int) := by omega
   have z3 : (i : Int) < (n : Int) := by omega
   obtain ⟨x, hx⟩ : ∃ x, L[i]? = some x := ⟨_, List.getElem?_eq_getElem (by rw [H.out.2.2.2.2.2.2.1]; exact hlt)⟩
   obtain ⟨b0, o0, c0, he, _, _, hat⟩ := (H.out.2.2.1.old R.out.2.2.1).at (by rw [H.out.2.2.2.2.2.2.1]; omega)
   rw [H.out.2.2.2.2.2.2.1] at he
   simp only [Value.slice.injEq, true_and] at he
   obtain ⟨he1, rfl⟩ := he
   rw [he1] at g1'
   have hxc := hat i x hx
   have lt := tokR_cells hxc
   obtain ⟨wa, hwa⟩ : ∃ W, wo.alloc (.cells #[.int .i64 0, .int .u64 0, .int .u64 0] 45) = W := ⟨_, rfl⟩
   have ba : wa.heap[wo.heap.size]? = some (.cells #[.int .i64 0, .int .u64 0, .int .u64 0] 45 (0, 0)) := by rw [← hwa]; exact heap_alloc_new _ _
   have oa : Old wo wa := by rw [← hwa]; exact (Keeps.refl _ _).alloc _
   obtain ⟨wt, hst, bt, kt⟩ := store_cells (o := 0) (ty := 45) ba #[.int .i64 x.m.tb, .int .u64 (x.m.tl : Int), .int .u64 (x.m.tc : Int)] (by simp) (by kernel_rfl) (by simp [Value.oneCell']) (putRange_whole (by simp))
   have ot : Old wo wt := oa.then kt (fun j hj e => by omega)
   have t0 : wt.cell? ⟨wo.heap.size, 0, none⟩ = some (.int .i64 x.m.tb) := by simp [World.cell?, bt]
   have t1 : wt.cell? ⟨wo.heap.size, 1, none⟩ = some (.int .u64 (x.m.tl : Int)) := by simp [World.cell?, bt]
   obtain ⟨e0, e1, -, -⟩ := blkQu ((ot.block rb (by have := lt_of_heap H.out.2.1; have := R.out.2.2.1.size; omega) (fun f => f)).trans ((R.out.2.2.1.block rb (lt_of_heap H.out.2.1) (fun f => f)).trans H.out.2.1))
   rw [H.out.2.2.2.2.2.2.1, he1] at e1
   have OT := Lib.hid ot
   clear ba oa bt kt ot
   obtain ⟨zt, hzt⟩ : ∃ z, dropQ b l x = z := ⟨_, rfl⟩
   have XX := Lib.hid (And.intro hx (And.intro hzt (And.intro hxc he1)))
   clear hx hat he1
   cases hbb : (x.m.tb == b)
   ·have hz0 : zt = false := by rw [← hzt]; unfold dropQ; rw [hbb]; rfl
    subst hz0
    have lq := load_rq (w := wt) (x := x) (b := b0) (o := o0 + i * 19) (fun j u hu => OT.out.cell (XX.out.2.2.1 j u hu) (fun f => f))
    obtain ⟨ws, hws⟩ : ∃ W, (wt).alloc (.cells x.cells.toArray 100) = W := ⟨_, rfl⟩
    have os : Old wo ws := by rw [← hws]; exact OT.out.alloc _
    have sn : SeesR ws 19 Qy.cells (.slice (some ⟨(wt).heap.size, 0, none⟩) 1 1) [x] := by
     rw [← hws]
     exact SeesR.new (k := 19) (enc := Qy.cells) _ _ (0, 0) [x] _ (by simp) Qy.len (by unfold maxLen; simp)
    have hxo := H.out.2.2.2.2.2.1 x (List.mem_of_getElem? XX.out.1)
    have lx : F.length + [x].length ≤ maxLen := by rw [R.out.2.2.2.1]; have := R.out.2.2.2.2.1; unfold maxLen; simp; omega
    have lx2 : (F.length + [x].length) * 224 ≤ 140737488355328 := by rw [R.out.2.2.2.1]; have := R.out.2.2.2.2.1; simp; omega
    have lx3 : w.heap.size ≤ ws.heap.size := Nat.le_trans R.out.2.2.1.size os.size
    have hx1 : ∀ y ∈ [x], ∀ c ∈ Qy.cells y, c.oneCell' = true := fun y hy => by rw [List.mem_singleton.1 hy]; exact hxo
    have NN := Lib.hid (And.intro (R.out.2.1.old os) (And.intro sn (And.intro hx1 (And.intro lx (And.intro lx2 (And.intro lx3 os))))))
    clear hxo lx lx2 lx3 hx1 sn os
    obtain ⟨y, hy⟩ : ∃ y, y = x := ⟨_, rfl⟩
    rw [← hy] at NN XX
    obtain ⟨link, ⟨kind, pub, ver, there, pv, ps, ⟨nn, tm, key, av, es⟩, tb, tl, tc, frm, ⟨fr, en, iv, its, gv, gs, last⟩⟩⟩ := x
    have HY := Lib.hid hy
    have hone := NN.out.2.2.1 y (by simp)
    obtain ⟨pp, pc, pe⟩ : ∃ a c, pv = .slice a ps.length c := by have := (H.out.2.2.2.1 y (List.mem_of_getElem? XX.out.1)).fine.1.1.1.len; rw [hy] at this; obtain ⟨a, c, e, _⟩ := this; exact ⟨a, c, e⟩
    obtain ⟨ap, ac, ae⟩ : ∃ a c, av = .slice a es.length c := by have := (H.out.2.2.2.1 y (List.mem_of_getElem? XX.out.1)).fine.2.1.1.len; rw [hy] at this; obtain ⟨a, c, e, _⟩ := this; exact ⟨a, c, e⟩
    obtain ⟨ip, ic, ie⟩ : ∃ a c, iv = .slice a its.length c := by have := (H.out.2.2.2.1 y (List.mem_of_getElem? XX.out.1)).fine.2.2.1.1.1.len; rw [hy] at this; obtain ⟨a, c, e, _⟩ := this; exact ⟨a, c, e⟩
    obtain ⟨gp, gc, ge⟩ : ∃ a c, gv = .slice a gs.length c := by have := (H.out.2.2.2.1 y (List.mem_of_getElem? XX.out.1)).fine.2.2.1.1.2.2.len; rw [hy] at this; obtain ⟨a, c, e, _⟩ := this; exact ⟨a, c, e⟩
    subst pe ae ie ge
    simp only [Qy.cells, Ms.cells, List.toArray] at lq hws
    clear hy hone
    go_wp2_with (at_builtin; refine wpList_append_rows (P := Try.prog) rfl _ _ 76 rfl w.heap.size 100 19 224 Qy.cells _ Try.underlying76 Try.infoRq rfl (by decide) (.slice pl fn cl) F (by rfl) NN.out.1 _ [y] (by rfl) NN.out.2.1 (fun _ _ => rfl) NN.out.2.2.1 NN.out.2.2.2.1 NN.out.2.2.2.2.1 NN.out.2.2.2.2.2.1 ?_; intro v4 w4 ho4 hg4 hv4; have k4 : Old w w4 := (R.out.2.2.1.trans NN.out.2.2.2.2.2.2).then (T := fun j => some j = (Value.slice pl fn cl).ownBlock) ⟨hg4.os, hg4.tape, hg4.output, hg4.size, fun j hj hne => hg4.block j hj hne⟩ (fun j hj e => by have := (R.out.2.1.block j e.symm).1; omega); have N4 := Lib.hid (And.intro ho4 k4); clear ho4 hg4 hv4 k4)
    have hw1 : IntKind.i64.wrap ((i : Int) + 1) = ((i + 1 : Nat) : Int) := by rw [IntKind.wrap_i64]; omega
    go_roundg (n - (i + 1))
    case measure => omega
    case rel =>
     obtain ⟨hF, ho, hk, hfn, hFl, _⟩ := R.out
     have e := keep_succ (pr := dropQ b l) XX.out.1
     rw [XX.out.2.1, if_neg (by decide), ← hF] at e
     exact ⟨i + 1, F ++ [y], by omega, rfl, by go_num, e.symm, by rw [List.length_append, hfn]; simp only [List.length_singleton]; rw [show i + 1 - (fn + 1) = i - fn by omega], N4.out.1, N4.out.2⟩
   ·obtain ⟨zl, hzl⟩ : ∃ z, decide ((x.m.tl : Int) < (l : Int)) = z := ⟨_, rfl⟩
    have hzl' : decide (x.m.tl < l) = zl := by rw [← hzl]; simp
    have hz0 : zt = zl := by rw [← hzt, ← hzl']; unfold dropQ; rw [hbb]; rfl
    subst hz0
    cases zt
    ·skip
     have lq := load_rq (w := wt) (x := x) (b := b0) (o := o0 + i * 19) (fun j u hu => OT.out.cell (XX.out.2.2.1 j u hu) (fun f => f))
     obtain ⟨ws, hws⟩ : ∃ W, (wt).alloc (.cells x.cells.toArray 100) = W := ⟨_, rfl⟩
     have os : Old wo ws := by rw [← hws]; exact OT.out.alloc _
     have sn : SeesR ws 19 Qy.cells (.slice (some ⟨(wt).heap.size, 0, none⟩) 1 1) [x] := by
      rw [← hws]
      exact SeesR.new (k := 19) (enc := Qy.cells) _ _ (0, 0) [x] _ (by simp) Qy.len (by unfold maxLen; simp)
     have hxo := H.out.2.2.2.2.2.1 x (List.mem_of_getElem? XX.out.1)
     have lx : F.length + [x].length ≤ maxLen := by rw [R.out.2.2.2.1]; have := R.out.2.2.2.2.1; unfold maxLen; simp; omega
     have lx2 : (F.length + [x].length) * 224 ≤ 140737488355328 := by rw [R.out.2.2.2.1]; have := R.out.2.2.2.2.1; simp; omega
     have lx3 : w.heap.size ≤ ws.heap.size := Nat.le_trans R.out.2.2.1.size os.size
     have hx1 : ∀ y ∈ [x], ∀ c ∈ Qy.cells y, c.oneCell' = true := fun y hy => by rw [List.mem_singleton.1 hy]; exact hxo
     have NN := Lib.hid (And.intro (R.out.2.1.old os) (And.intro sn (And.intro hx1 (And.intro lx (And.intro lx2 (And.intro lx3 os))))))
     clear hxo lx lx2 lx3 hx1 sn os
     obtain ⟨y, hy⟩ : ∃ y, y = x := ⟨_, rfl⟩
     rw [← hy] at NN XX
     obtain ⟨link, ⟨kind, pub, ver, there, pv, ps, ⟨nn, tm, key, av, es⟩, tb, tl, tc, frm, ⟨fr, en, iv, its, gv, gs, last⟩⟩⟩ := x
     have HY := Lib.hid hy
     have hone := NN.out.2.2.1 y (by simp)
     obtain ⟨pp, pc, pe⟩ : ∃ a c, pv = .slice a ps.length c := by have := (H.out.2.2.2.1 y (List.mem_of_getElem? XX.out.1)).fine.1.1.1.len; rw [hy] at this; obtain ⟨a, c, e, _⟩ := this; exact ⟨a, c, e⟩
     obtain ⟨ap, ac, ae⟩ : ∃ a c, av = .slice a es.length c := by have := (H.out.2.2.2.1 y (List.mem_of_getElem? XX.out.1)).fine.2.1.1.len; rw [hy] at this; obtain ⟨a, c, e, _⟩ := this; exact ⟨a, c, e⟩
     obtain ⟨ip, ic, ie⟩ : ∃ a c, iv = .slice a its.length c := by have := (H.out.2.2.2.1 y (List.mem_of_getElem? XX.out.1)).fine.2.2.1.1.1.len; rw [hy] at this; obtain ⟨a, c, e, _⟩ := this; exact ⟨a, c, e⟩
     obtain ⟨gp, gc, ge⟩ : ∃ a c, gv = .slice a gs.length c := by have := (H.out.2.2.2.1 y (List.mem_of_getElem? XX.out.1)).fine.2.2.1.1.2.2.len; rw [hy] at this; obtain ⟨a, c, e, _⟩ := this; exact ⟨a, c, e⟩
     subst pe ae ie ge
     simp only [Qy.cells, Ms.cells, List.toArray] at lq hws
     clear hy hone
     go_wp2_with (at_builtin; refine wpList_append_rows (P := Try.prog) rfl _ _ 76 rfl w.heap.size 100 19 224 Qy.cells _ Try.underlying76 Try.infoRq rfl (by decide) (.slice pl fn cl) F (by rfl) NN.out.1 _ [y] (by rfl) NN.out.2.1 (fun _ _ => rfl) NN.out.2.2.1 NN.out.2.2.2.1 NN.out.2.2.2.2.1 NN.out.2.2.2.2.2.1 ?_; intro v4 w4 ho4 hg4 hv4; have k4 : Old w w4 := (R.out.2.2.1.trans NN.out.2.2.2.2.2.2).then (T := fun j => some j = (Value.slice pl fn cl).ownBlock) ⟨hg4.os, hg4.tape, hg4.output, hg4.size, fun j hj hne => hg4.block j hj hne⟩ (fun j hj e => by have := (R.out.2.1.block j e.symm).1; omega); have N4 := Lib.hid (And.intro ho4 k4); clear ho4 hg4 hv4 k4)
     have hw1 : IntKind.i64.wrap ((i : Int) + 1) = ((i + 1 : Nat) : Int) := by rw [IntKind.wrap_i64]; omega
     go_roundg (n - (i + 1))
     case measure => omega
     case rel =>
      obtain ⟨hF, ho, hk, hfn, hFl, _⟩ := R.out
      have e := keep_succ (pr := dropQ b l) XX.out.1
      rw [XX.out.2.1, if_neg (by decide), ← hF] at e
      exact ⟨i + 1, F ++ [y], by omega, rfl, by go_num, e.symm, by rw [List.length_append, hfn]; simp only [List.length_singleton]; rw [show i + 1 - (fn + 1) = i - fn by omega], N4.out.1, N4.out.2⟩
    ·skip
     have hw1 : IntKind.i64.wrap (((i - fn : Nat) : Int) + 1) = ((i + 1 - fn : Nat) : Int) := by have := R.out.2.2.2.2.1; rw [IntKind.wrap_i64]; omega
     go_wp2_with fail
     go_roundg (n - (i + 1))
     case measure => omega
     case rel =>
      obtain ⟨hF, ho, hk, hfn, hFl, _⟩ := R.out
      have e := keep_succ (pr := dropQ b l) XX.out.1
      rw [XX.out.2.1, if_pos rfl, List.append_nil, ← hF] at e
      exact ⟨i + 1, F, by omega, rfl, by go_num, e.symm, by rw [hfn], ho.old OT.out, hk.trans OT.out⟩
  ·obtain rfl : i = n := by omega
   have z1 : decide ((i : Int) < (i : Int)) = false := by simp
   clear hlt
   obtain ⟨ws, hst, bs, ks⟩ := store_cell (o := 1) (ty := 76) ((R.out.2.2.1.block rb (lt_of_heap H.out.2.1) (fun f => f)).trans H.out.2.1) (.slice pl fn cl) rfl (by simp) (by kernel_rfl) rfl rfl
   have KS := Lib.hid (And.intro bs ks)
   clear bs ks
   go_wp2_with fail
   refine bodyPost_ret (v := .int .i64 ((i - fn : Nat) : Int)) ?_ rfl ?_
   ·simp [results, Try.results23, go_sem]
   obtain ⟨hF, ho, hk, hfn, hFl, _⟩ := R.out
   obtain ⟨hL, h1, h2, h5, hfl, hone, hn, hpn, hLl⟩ := H.out
   rw [List.take_of_length_le (by omega)] at hF
   obtain ⟨d1, d2⟩ := hD.out.put (P' := P.filter fun y => !dropP b l y) hk ho (by rw [hF]; exact hfl) (fun x hx => h5 x (by rw [hF] at hx; exact (List.mem_filter.1 hx).1)) KS.out.2 (by simpa using KS.out.1)
   refine ⟨?_, d1, d2⟩
   rw [hpn, ← hfl, List.length_map, ← hF, hfn]
set_option maxRecDepth 100000 in
set_option maxHeartbeats 2000000 in
theorem rforget_any {T : Nat → Prop} {w : World} {rb most : Nat} {P : List (Int × PMs)} (lk : Int) (h : Dq T w rb most P) (hlen : P.length ≤ 10000) :
  Calls Try.prog 25 #[.pointer (some ⟨rb, 0, none⟩), .int .i64 lk] w fun e w' => e = .returned (.int .i64 ((P.length - (P.filter fun y => !linkP lk y).length : Nat) : Int)) ∧ Dq T w' rb most (P.filter fun y => !linkP lk y) ∧ Keeps (fun k => k = rb) w w' := by
 have hD := Lib.hid h
 obtain ⟨p, n, c, L, hL, h1, h2, h3, h4, h5, h6⟩ := h
 obtain ⟨p', c', e, hle, hmx⟩ := h2.len
 simp only [Value.slice.injEq] at e
 obtain ⟨rfl, rfl, rfl⟩ := e
 have hLl : L.length ≤ 10000 := by rw [← List.length_map (f := Qy.plain), hL]; exact hlen
 have hfl := map_filter (pr := linkQ lk) (pp := linkP lk) (fun x => rfl) L
 rw [hL] at hfl
 have hone : ∀ x ∈ L, ∀ u ∈ x.cells, u.oneCell' = true := fun x hx u hu => by
  have := (h5 x hx).fine.one
  rw [Array.all_eq_true_iff_forall_mem] at this
  rcases List.mem_cons.1 hu with rfl | hu
  ·rfl
  ·exact this u (by simpa using hu)
 have q1 : ∀ a W, (loadVar 3 a).run Try.prog W = (load a).run Try.prog W := fun _ _ => by kernel_rfl
 have q2 : ∀ a W, (loadVar 28 a).run Try.prog W = (load a).run Try.prog W := fun _ _ => by kernel_rfl
 have q3 : ∀ a W, (loadVar 76 a).run Try.prog W = (load a).run Try.prog W := fun _ _ => by kernel_rfl
 obtain ⟨g0, g1, f0, f1⟩ := blkQu h1
 obtain ⟨n, hn⟩ : ∃ n, L.length = n := ⟨_, rfl⟩
 have hpn : P.length = n := by rw [← hL, List.length_map, hn]
 have H := Lib.hid (And.intro hL (And.intro h1 (And.intro h2 (And.intro h5 (And.intro hfl (And.intro hone (And.intro hn (And.intro hpn hLl))))))))
 rw [hn] at g1
 have hn4 : n ≤ 10000 := by omega
 clear hlen hL h1 h2 h3 h4 h5 h6 hle hmx hLl hfl hone hn hpn
 go_enter Try.func25, Try.ntmps25
 go_wp2_with fail
 go_loopg [5, 6, 7] n (fun k vl vn vi wr => ∃ (i : Nat) (F : List Qy), i ≤ n ∧ k = n - i ∧ vi = .int .i64 (i : Int) ∧ F = ((L.take i).filter fun y => !linkQ lk y) ∧ vn = .int .i64 ((i - F.length : Nat) : Int) ∧ OwnsR wr w.heap.size 100 19 Qy.cells vl F ∧ Old w wr)
 case atStart => exact ⟨0, [], Nat.zero_le _, rfl, rfl, rfl, rfl, OwnsR.nil _ _, Keeps.refl _ _⟩
 case round =>
  obtain ⟨i, F, hi, rfl, rfl, hF, rfl, ho, hk⟩ := hrel
  obtain ⟨wo, rfl⟩ : ∃ wo : World, wo = wr := ⟨_, rfl⟩
  have hFl : F.length ≤ i := by rw [hF]; exact Nat.le_trans (List.length_filter_le _ _) (by rw [List.length_take]; exact Nat.min_le_left _ _)
  obtain ⟨pl, cl, rfl, _, _⟩ := (ho.sees Qy.len (by decide)).len
  obtain ⟨fn, hfn⟩ : ∃ m, F.length = m := ⟨_, rfl⟩
  rw [hfn] at ho hFl ⊢
  obtain ⟨g0', g1', f0', f1'⟩ := blkQu ((hk.block rb (lt_of_heap H.out.2.1) (fun f => f)).trans H.out.2.1)
  rw [H.out.2.2.2.2.2.2.1] at g1'
  have R := Lib.hid (And.intro hF (And.intro ho (And.intro hk (And.intro hfn (And.intro hFl hi)))))
  clear hF ho hk hfn
  by_cases hlt : i < n
  ·have z1 : decide ((i : Int) < (n : Int)) = true := by simp; omega
   have z2 : (0 : Int) ≤ (i : Int) := by omega
   have z3 : (i : Int) < (n : Int) := by omega
   obtain ⟨x, hx⟩ : ∃ x, L[i]? = some x := ⟨_, List.getElem?_eq_getElem (by rw [H.out.2.2.2.2.2.2.1]; exact hlt)⟩
   obtain ⟨b0, o0, c0, he, _, _, hat⟩ := (H.out.2.2.1.old R.out.2.2.1).at (by rw [H.out.2.2.2.2.2.2.1]; omega)
   rw [H.out.2.2.2.2.2.2.1] at he
   simp only [Value.slice.injEq, true_and] at he
   obtain ⟨he1, rfl⟩ := he
   rw [he1] at g1'
   have hxc := hat i x hx
   have ll : wo.cell? ⟨b0, o0 + i * 19, none⟩ = some (.int .i64 x.link) := by simpa using hxc 0 _ rfl
   have KO : Hid (Old wo wo) := Lib.hid (Keeps.refl _ _)
   obtain ⟨zt, hzt⟩ : ∃ z, linkQ lk x = z := ⟨_, rfl⟩
   have XX := Lib.hid (And.intro hx (And.intro hzt (And.intro hxc he1)))
   clear hx hat he1
   have hz1 : (x.link == lk) = zt := hzt
   cases zt
   ·skip
    have lq := load_rq (w := wo) (x := x) (b := b0) (o := o0 + i * 19) (fun j u hu => XX.out.2.2.1 j u hu)
    obtain ⟨ws, hws⟩ : ∃ W, (wo).alloc (.cells x.cells.toArray 100) = W := ⟨_, rfl⟩
    have os : Old wo ws := by rw [← hws]; exact KO.out.alloc _
    have sn : SeesR ws 19 Qy.cells (.slice (some ⟨(wo).heap.size, 0, none⟩) 1 1) [x] := by
     rw [← hws]
     exact SeesR.new (k := 19) (enc := Qy.cells) _ _ (0, 0) [x] _ (by simp) Qy.len (by unfold maxLen; simp)
    have hxo := H.out.2.2.2.2.2.1 x (List.mem_of_getElem? XX.out.1)
    have lx : F.length + [x].length ≤ maxLen := by rw [R.out.2.2.2.1]; have := R.out.2.2.2.2.1; unfold maxLen; simp; omega
    have lx2 : (F.length + [x].length) * 224 ≤ 140737488355328 := by rw [R.out.2.2.2.1]; have := R.out.2.2.2.2.1; simp; omega
    have lx3 : w.heap.size ≤ ws.heap.size := Nat.le_trans R.out.2.2.1.size os.size
    have hx1 : ∀ y ∈ [x], ∀ c ∈ Qy.cells y, c.oneCell' = true := fun y hy => by rw [List.mem_singleton.1 hy]; exact hxo
    have NN := Lib.hid (And.intro (R.out.2.1.old os) (And.intro sn (And.intro hx1 (And.intro lx (And.intro lx2 (And.intro lx3 os))))))
    clear hxo lx lx2 lx3 hx1 sn os
    obtain ⟨y, hy⟩ : ∃ y, y = x := ⟨_, rfl⟩
    rw [← hy] at NN XX
    obtain ⟨link, ⟨kind, pub, ver, there, pv, ps, ⟨nn, tm, key, av, es⟩, tb, tl, tc, frm, ⟨fr, en, iv, its, gv, gs, last⟩⟩⟩ := x
    have HY := Lib.hid hy
    have hone := NN.out.2.2.1 y (by simp)
    obtain ⟨pp, pc, pe⟩ : ∃ a c, pv = .slice a ps.length c := by have := (H.out.2.2.2.1 y (List.mem_of_getElem? XX.out.1)).fine.1.1.1.len; rw [hy] at this; obtain ⟨a, c, e, _⟩ := this; exact ⟨a, c, e⟩
    obtain ⟨ap, ac, ae⟩ : ∃ a c, av = .slice a es.length c := by have := (H.out.2.2.2.1 y (List.mem_of_getElem? XX.out.1)).fine.2.1.1.len; rw [hy] at this; obtain ⟨a, c, e, _⟩ := this; exact ⟨a, c, e⟩
    obtain ⟨ip, ic, ie⟩ : ∃ a c, iv = .slice a its.length c := by have := (H.out.2.2.2.1 y (List.mem_of_getElem? XX.out.1)).fine.2.2.1.1.1.len; rw [hy] at this; obtain ⟨a, c, e, _⟩ := this; exact ⟨a, c, e⟩
    obtain ⟨gp, gc, ge⟩ : ∃ a c, gv = .slice a gs.length c := by have := (H.out.2.2.2.1 y (List.mem_of_getElem? XX.out.1)).fine.2.2.1.1.2.2.len; rw [hy] at this; obtain ⟨a, c, e, _⟩ := this; exact ⟨a, c, e⟩
    subst pe ae ie ge
    simp only [Qy.cells, Ms.cells, List.toArray] at lq hws
    clear hy hone
    go_wp2_with (at_builtin; refine wpList_append_rows (P := Try.prog) rfl _ _ 76 rfl w.heap.size 100 19 224 Qy.cells _ Try.underlying76 Try.infoRq rfl (by decide) (.slice pl fn cl) F (by rfl) NN.out.1 _ [y] (by rfl) NN.out.2.1 (fun _ _ => rfl) NN.out.2.2.1 NN.out.2.2.2.1 NN.out.2.2.2.2.1 NN.out.2.2.2.2.2.1 ?_; intro v4 w4 ho4 hg4 hv4; have k4 : Old w w4 := (R.out.2.2.1.trans NN.out.2.2.2.2.2.2).then (T := fun j => some j = (Value.slice pl fn cl).ownBlock) ⟨hg4.os, hg4.tape, hg4.output, hg4.size, fun j hj hne => hg4.block j hj hne⟩ (fun j hj e => by have := (R.out.2.1.block j e.symm).1; omega); have N4 := Lib.hid (And.intro ho4 k4); clear ho4 hg4 hv4 k4)
    have hw1 : IntKind.i64.wrap ((i : Int) + 1) = ((i + 1 : Nat) : Int) := by rw [IntKind.wrap_i64]; omega
    go_roundg (n - (i + 1))
    case measure => omega
    case rel =>
     obtain ⟨hF, ho, hk, hfn, hFl, _⟩ := R.out
     have e := keep_succ (pr := linkQ lk) XX.out.1
     rw [XX.out.2.1, if_neg (by decide), ← hF] at e
     exact ⟨i + 1, F ++ [y], by omega, rfl, by go_num, e.symm, by rw [List.length_append, hfn]; simp only [List.length_singleton]; rw [show i + 1 - (fn + 1) = i - fn by omega], N4.out.1, N4.out.2⟩
   ·skip
    have hw1 : IntKind.i64.wrap (((i - fn : Nat) : Int) + 1) = ((i + 1 - fn : Nat) : Int) := by have := R.out.2.2.2.2.1; rw [IntKind.wrap_i64]; omega
    go_wp2_with fail
    go_roundg (n - (i + 1))
    case measure => omega
    case rel =>
     obtain ⟨hF, ho, hk, hfn, hFl, _⟩ := R.out
     have e := keep_succ (pr := linkQ lk) XX.out.1
     rw [XX.out.2.1, if_pos rfl, List.append_nil, ← hF] at e
     exact ⟨i + 1, F, by omega, rfl, by go_num, e.symm, by rw [hfn], ho.old KO.out, hk.trans KO.out⟩
  ·obtain rfl : i = n := by omega
   have z1 : decide ((i : Int) < (i : Int)) = false := by simp
   clear hlt
   obtain ⟨ws, hst, bs, ks⟩ := store_cell (o := 1) (ty := 76) ((R.out.2.2.1.block rb (lt_of_heap H.out.2.1) (fun f => f)).trans H.out.2.1) (.slice pl fn cl) rfl (by simp) (by kernel_rfl) rfl rfl
   have KS := Lib.hid (And.intro bs ks)
   clear bs ks
   go_wp2_with fail
   refine bodyPost_ret (v := .int .i64 ((i - fn : Nat) : Int)) ?_ rfl ?_
   ·simp [results, Try.results25, go_sem]
   obtain ⟨hF, ho, hk, hfn, hFl, _⟩ := R.out
   obtain ⟨hL, h1, h2, h5, hfl, hone, hn, hpn, hLl⟩ := H.out
   rw [List.take_of_length_le (by omega)] at hF
   obtain ⟨d1, d2⟩ := hD.out.put (P' := P.filter fun y => !linkP lk y) hk ho (by rw [hF]; exact hfl) (fun x hx => h5 x (by rw [hF] at hx; exact (List.mem_filter.1 hx).1)) KS.out.2 (by simpa using KS.out.1)
   refine ⟨?_, d1, d2⟩
   rw [hpn, ← hfl, List.length_map, ← hF, hfn]
end Go.Proofs.Ytiednihagnehlaa
