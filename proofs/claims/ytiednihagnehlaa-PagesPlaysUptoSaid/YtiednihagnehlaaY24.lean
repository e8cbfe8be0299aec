/- DERIVED. Chapter 25: Add to a queue. -/
import Derived.Test.YtiednihagnehlaaY23
import Derived.Test.YtiednihagnehlaaY18
namespace Go.Proofs.Ytiednihagnehlaa
open Go.RowKit

/-- Add's answer, plain -/
def addP (most : Nat) (P : List (Int × PMs)) (x : Int × PMs) : Int × List (Int × PMs) :=
 if (x.2.kind == 5) = true then
  if mayM x.2 = true then
   if P.any (staleP x.2.tb x.2.tl x.2.tc) = true then (9, P)
   else if decide (most ≤ (P.filter fun y => !dropP x.2.tb x.2.tl y).length) = true then (7, P.filter fun y => !dropP x.2.tb x.2.tl y)
   else (0, (P.filter fun y => !dropP x.2.tb x.2.tl y) ++ [x])
  else (30, P)
 else (30, P)
def AddPost (R S : Nat → Prop) (w : World) (qb most : Nat) (P : List (Int × PMs)) (x : Int × PMs) (e : Ending) (w' : World) : Prop :=
 ∃ R' : Nat → Prop, (∀ k, R' k → R k ∨ w.heap.size ≤ k) ∧ (∀ k, R k → R' k) ∧ e = .returned (.int .i64 (addP most P x).1) ∧ QuP R' (fun k => S k ∨ R' k) w' qb most (addP most P x).2 ∧ Keeps R w w'
theorem Qu.facts {R S : Nat → Prop} {w : World} {qb most : Nat} {L : List Qy} (h : Qu R S w qb most L) : R qb ∧ (∀ k, R k → S k) ∧ ∀ k, S k → k < w.heap.size := by
 obtain ⟨p, n, c, h1, h2, h3, h4, h5, h6, h7⟩ := h
 exact ⟨h4, h6, h7⟩
theorem QuP.facts {R S : Nat → Prop} {w : World} {qb most : Nat} {P : List (Int × PMs)} (h : QuP R S w qb most P) : R qb ∧ (∀ k, R k → S k) ∧ ∀ k, S k → k < w.heap.size := by
 obtain ⟨L, _, h⟩ := h
 exact h.facts
theorem QuP.same {R S : Nat → Prop} {w : World} {qb most : Nat} {P : List (Int × PMs)} (h : QuP R S w qb most P) : QuP R (fun k => S k ∨ R k) w qb most P := by
 obtain ⟨L, e, h⟩ := h
 obtain ⟨_, h6, h7⟩ := h.facts
 exact ⟨L, e, h.other (R1 := fun _ => False) (Keeps.refl _ _) (fun _ f => f.elim) (fun _ _ f => f) (fun k hk => .inl hk) (fun k hk => by rcases hk with hk | hk; exact .inl hk; exact .inl (h6 k hk)) (fun k hk => by rcases hk with hk | hk; exact h7 k hk; exact h7 k (h6 k hk))⟩
theorem AddPost.stay {R S : Nat → Prop} {w w' : World} {qb most : Nat} {P : List (Int × PMs)} {x : Int × PMs} {z : Int} {P' : List (Int × PMs)} (ha : addP most P x = (z, P')) (h : QuP R S w' qb most P') (hk : Keeps R w w') : AddPost R S w qb most P x (.returned (.int .i64 z)) w' :=
 ⟨R, fun k hk => .inl hk, fun k hk => hk, by rw [ha], by rw [ha]; exact h.same, hk⟩

theorem may_query {m : PMs} (h : mayM m = true) (hk : m.kind = 5) : okP m.ps = true := by
 have h3 : rightM m 3 = true := by
  unfold mayM at h
  rw [Bool.and_eq_true, List.all_eq_true] at h
  have := h.1 3 (by simp)
  unfold partOk at this
  rw [hk] at this
  have hp : ((3 : Nat) : Int) ∈ partsL 5 := by decide
  rw [if_pos hp] at this
  exact this
 exact right3' h3 (fun e => by rw [hk] at e; exact absurd e.1 (by decide))
theorem set_len {x : Con} (h : conOk x = true) : x.set.length ≤ 6 := by
 unfold conOk at h
 simp only [Bool.and_eq_true] at h
 have h2 := h.2
 split at h2
 ·simp at h2; rw [h2.2]; simp
 split at h2
 ·simp at h2; rw [h2.2]; simp
 split at h2
 ·simp at h2; rw [h2.2.2]; simp
 split at h2
 ·simp at h2; omega
 ·cases h2
theorem set_small {m : Ms} (h : okP m.plain.ps = true) : m.ps.length ≤ 6 ∧ ∀ x ∈ m.ps, x.set.length ≤ 6 := by
 obtain ⟨h1, h2⟩ := okP_parts h
 refine ⟨by simpa [Ms.plain] using h1, fun x hx => set_len (by rw [conOk_plain]; exact h2 _ (List.mem_map_of_mem hx))⟩
theorem con_one {x : Con} {w : World} (h : x.fine w) : ∀ c ∈ x.cells, c.oneCell' = true := by
 obtain ⟨p, c, e, _, _⟩ := h.1.len
 simp [Con.cells, e, Value.oneCell']
theorem run_store_one {P : Program} {w : World} {b o : Nat} {ty : TypeId} (hth : w.there b o 1) (v : Value) (hv : v.cells = #[v]) (hi : (P.info? ty).map (·.size) = some 1) (h1 : v.oneCell' = true) :
  (storeVar ty ⟨b, o, none⟩ v).run P w = .ok () (w.setCell ⟨b, o, none⟩ v) := by
 have := run_storeCells_cells (P := P) b o [v] 0 w (fun j hj => by have := (hth j (by simpa using hj)).1; simpa using this) (fun j hj => by have := (hth j (by simpa using hj)).2; simpa using this) (fun x hx => by simp at hx; subst hx; exact h1)
 cases hq : P.info? ty with
 | none => simp [hq] at hi
 | some i =>
  have hs : i.size = 1 := by simpa [hq] using hi
  simp only [Nat.add_zero] at this
  simp [storeVar, sizeOf, typeInfo, hq, hv, hs, this, World.setCells]
theorem seesR_nil_any {α : Type} {w w' : World} {k : Nat} {enc : α → List Value} {v : Value} (h : SeesR w k enc v []) : SeesR w' k enc v [] := by
 obtain ⟨p, c, h1, h2, h3, h4, h5⟩ := h
 exact ⟨p, c, h1, h2, h3, h4, fun a ha => ⟨(h5 a ha).1, fun j x hj => by cases hj⟩⟩
/-- of a query nothing else lies in memory -/
def Lone (m : Ms) : Prop := m.it.es = [] ∧ m.pg.its = [] ∧ m.pg.gs = []
theorem query_rest {m : Ms} (h : mayM m.plain = true) (hk : m.kind = 5) : Lone m := by
 have hp : ∀ p : Nat, p < 8 → ((p : Int) ∈ partsL 5 → False) → bareM m.plain (p : Int) = true := fun p hp hn => by
  unfold mayM at h
  rw [Bool.and_eq_true, List.all_eq_true] at h
  have := h.1 p (by simpa using hp)
  unfold partOk at this
  rw [show m.plain.kind = m.kind from rfl, hk, if_neg (fun e => hn e)] at this
  exact this
 have h4 : sameI m.plain.it noItem = true := hp 4 (by omega) (by decide)
 have h7 : sameG m.plain.pg noPage = true := hp 7 (by omega) (by decide)
 have e4 := (sameI_iff _ _).1 h4
 have e7 := (sameG_iff _ _).1 h7
 refine ⟨congrArg PIt.es e4, ?_, ?_⟩
 ·have := congrArg PPg.items e7
  exact List.map_eq_nil_iff.1 this
 ·exact congrArg PPg.gaps e7
theorem Lone.parts {m : Ms} (h : Lone m) {w w' : World} (hf : m.fine w) : m.it.fine w' ∧ m.pg.fine w' := by
 obtain ⟨h1, h2, h3⟩ := h
 obtain ⟨_, ⟨a1, a2, a3⟩, ⟨⟨b1, b2, b3⟩, b4, b5, b6⟩, _⟩ := hf
 refine ⟨⟨?_, ?_, a3⟩, ⟨⟨?_, ?_, ?_⟩, b4, b5, ?_⟩⟩
 ·rw [h1] at a1 ⊢; exact seesR_nil_any a1
 ·rw [h1]; exact fun h => absurd h (by simp)
 ·rw [h2] at b1 ⊢; exact seesR_nil_any b1
 ·rw [h2]; exact fun y hy => by cases hy
 ·rw [h3] at b3 ⊢; exact seesR_nil_any b3
 ·rw [h2, h3]; exact ⟨fun h => absurd h (by simp), fun h => absurd h (by simp)⟩
/-- the message with its predicate laid anew -/
theorem pred_swap {S : Nat → Prop} {wr : World} {m : Ms} {p : Option Addr} {n c B Q : Nat} {cs : List Con} (hst : m.fine wr) (hlo : Lone m) (hS : ∀ k, S k → k < B) (ho : OwnsR wr B 69 7 Con.cells (.slice p n c) cs)
  (hsets : ∀ x ∈ cs, OwnsV wr Q x.sv x.set) (hQ : B ≤ Q) (hp : cs.map Con.plain = m.ps.map Con.plain) : Steady S wr { m with pv := .slice p n c, ps := cs } ∧ ({ m with pv := .slice p n c, ps := cs } : Ms).plain = m.plain := by
 refine ⟨fun W hW => ?_, by unfold Ms.plain; simp only [hp]⟩
 have hm := hlo.parts (w' := W) hst
 have ho' := ho.keeps hW (fun b hb hs => by have := (ho.block b hb).1; have := hS b hs; omega)
 refine ⟨⟨⟨ho'.sees (fun _ => rfl) (by decide), fun x hx => ?_⟩, fun _ b hb => (ho'.block b hb).2⟩, hm.1, hm.2, hst.2.2.2⟩
 have hxs := (hsets x hx).keeps hW (fun b hb hs => by have := ((hsets x hx).block b hb).1; have := hS b hs; omega)
 have hmem : x.plain ∈ m.ps.map Con.plain := by rw [← hp]; exact List.mem_map_of_mem hx
 obtain ⟨z, hz, hzp⟩ := List.mem_map.1 hmem
 have hzf := hst.1.1.2 z hz
 have e1 : z.name = x.name := congrArg PCon.name hzp
 have e2 : z.val = x.val := congrArg PCon.val hzp
 have e3 : z.set = x.set := congrArg PCon.set hzp
 refine ⟨hxs.sees (fun _ => rfl) (by decide), ?_, ?_, fun _ b hb => (hxs.block b hb).2⟩
 ·rw [← e1, ← e2]; exact hzf.2.1
 ·rw [← e3]; exact hzf.2.2.1
/-- a query is built -/
theorem run_build_q {ρ : Operand → Value} {o : Oper} {a b : Operand} (ho : o.op = .build 87 #[(0, a), (1, b)]) (link : Int) (m : Ms) (ha : ρ a = .int .i64 link) (hb : ρ b = .agg m.cells.toArray) (W : World) :
  (execOp ρ o).run Try.prog W = .ok (.value (.agg (⟨link, m⟩ : Qy).cells.toArray)) W := by
 obtain ⟨kind, pub, ver, there, pv, ps, ⟨n, tm, key, av, es⟩, tb, tl, tc, frm, ⟨fr, en, iv, its, gv, gs, last⟩⟩ := m
 unfold execOp
 rw [ho]
 simp [Ms.cells, Qy.cells, go_sem, ha, hb]
set_option maxRecDepth 100000 in
theorem run_slice_q {ρ : Operand → Value} {o : Oper} {a : Operand} (ho : o.op = .buildSlice 80 1 #[(0, a)]) (y : Qy) (ha : ρ a = .agg y.cells.toArray) (W : World) :
  (execOp ρ o).run Try.prog W = .ok (.value (.slice (some ⟨W.heap.size, 0, none⟩) 1 1)) (W.alloc (.cells y.cells.toArray 87)) := by
 obtain ⟨link, ⟨kind, pub, ver, there, pv, ps, ⟨n, tm, key, av, es⟩, tb, tl, tc, frm, ⟨fr, en, iv, its, gv, gs, last⟩⟩⟩ := y
 unfold execOp
 rw [ho]
 simp [Ms.cells, Qy.cells, go_sem, ha]
theorem step_value {P : Program} {w w' : World} {ops : Array Oper} {o : Oper} {a : Act} {K : Act → World → Prop} {Q : Exit → Act → World → Prop} {G : Prop} (hgd : o.guard = none) (v : Value) (hrun : (execOp a.eval o).run P w = .ok (.value v) w') (h : K (a.put o.dst v) w') :
  if Region.wanted o (yielded ops a.tmps) = true then Oper.wp P o a w K Q else G := by
 have hw : Region.wanted o (yielded ops a.tmps) = true := by simp [Region.wanted, hgd]
 rw [if_pos hw]
 unfold Oper.wp
 simp only [hrun]
 exact h
attribute [-go_sem] loadVar storeVar
set_option maxRecDepth 100000 in
set_option maxHeartbeats 4000000 in
theorem add_q2 {R S : Nat → Prop} {w : World} {qb most : Nat} {P : List (Int × PMs)} (link : Int) (m : Ms) (h : QuP R S w qb most P) (hm : 1 ≤ most) (hlen : P.length ≤ 10000) (hst : Steady R w m) :
  Calls Try.prog 10 #[.pointer (some ⟨qb, 0, none⟩), .int .i64 link, .agg m.cells.toArray] w (AddPost R S w qb most P (link, m.plain)) := by
 obtain ⟨hRq, hRS, hSl⟩ := h.facts
 have hlt : ∀ k, R k → k < w.heap.size := fun k hk => hSl k (hRS k hk)
 have hql : qb < w.heap.size := hlt qb hRq
 -- the message's block, the token's
 obtain ⟨Wa, hWa⟩ : ∃ W, w.alloc (.cells m.cells.toArray 43) = W := ⟨_, rfl⟩
 have ba : MAt Wa w.heap.size m := by rw [← hWa]; exact heap_alloc_new _ _
 have oa : Old w Wa := by rw [← hWa]; exact (Keeps.refl _ _).alloc _
 have sa : Wa.heap.size = w.heap.size + 1 := by rw [← hWa]; simp
 obtain ⟨Wb, hWb⟩ : ∃ W, Wa.alloc (.cells #[.int .i64 0, .int .u64 0, .int .u64 0] 37) = W := ⟨_, rfl⟩
 have bb : Wb.heap[Wa.heap.size]? = some (.cells #[.int .i64 0, .int .u64 0, .int .u64 0] 37 (0, 0)) := by rw [← hWb]; exact heap_alloc_new _ _
 have ob : Old Wa Wb := by rw [← hWb]; exact (Keeps.refl _ _).alloc _
 rw [sa] at bb
 obtain ⟨Wt, hstt, bt, kt⟩ := store_cells (o := 0) (ty := 37) bb #[.int .i64 m.tb, .int .u64 (m.tl : Int), .int .u64 (m.tc : Int)] (by simp) (by kernel_rfl) (by simp [Value.oneCell']) (putRange_whole (by simp))
 have ot : Old w Wt := (oa.trans ob).then kt (fun i hi e => by have := (oa.trans ob).size; omega)
 have bat : MAt Wt w.heap.size m := (kt.block _ (by have := lt_of_heap ba; have := ob.size; omega) (by omega)).trans ((ob.block _ (lt_of_heap ba) (fun f => f)).trans ba)
 have l9 := load_sub (W := Wa) (b := w.heap.size) (o := 9) (cs := #[.int .i64 m.tb, .int .u64 (m.tl : Int), .int .u64 (m.tc : Int)]) (ty := 37) (by
  intro j v hv
  rcases j with _ | _ | _ | j <;> simp at hv
  all_goals (subst hv; simp [World.cell?, ba, Ms.cells])) Try.underlying37 rfl (by kernel_rfl)
 have q1 : ∀ a W, (loadVar 3 a).run Try.prog W = (load a).run Try.prog W := fun _ _ => by kernel_rfl
 have q2 : ∀ a W, (loadVar 28 a).run Try.prog W = (load a).run Try.prog W := fun _ _ => by kernel_rfl
 have q3 : ∀ a W, (loadVar 80 a).run Try.prog W = (load a).run Try.prog W := fun _ _ => by kernel_rfl
 have q4 : ∀ a W, (loadVar 30 a).run Try.prog W = (load a).run Try.prog W := fun _ _ => by kernel_rfl
 have q5 : ∀ a W, (loadVar 67 a).run Try.prog W = (load a).run Try.prog W := fun _ _ => by kernel_rfl
 have lm := load_msg bat (by simp [Ms.cells])
 have ck : Wt.cell? ⟨w.heap.size, 0, none⟩ = some (.int .i64 m.kind) := by simp [World.cell?, bat, Ms.cells]
 obtain ⟨L, hL, h⟩ := h
 have h0 := h.old ot
 have C := Lib.hid (by
  obtain ⟨p, n, c, g1, _⟩ := h0
  exact none_yes qb most Wt (blkQu g1).1 hm)
 have HM := Lib.hid (msg_may_any m Wt (hst.old ot).fine)
 have H := Lib.hid (And.intro h0 (And.intro hst (And.intro ot (And.intro bat (And.intro bt (And.intro hlt (And.intro hRq (And.intro hRS hL))))))))
 have HL := Lib.hid hlen
 obtain ⟨zk, hzk⟩ : ∃ z, (m.kind == 5) = z := ⟨_, rfl⟩
 obtain ⟨zm, hzm⟩ : ∃ z, mayM m.plain = z := ⟨_, rfl⟩
 rw [hzm] at HM
 have ZM := Lib.hid hzm
 have ZK := Lib.hid (show ((link, m.plain).2.kind == 5) = zk from hzk)
 have hzk' : (m.kind != 5) = !zk := by rw [← hzk]; rfl
 clear h h0 hst ot bat bt hlt hRq hRS hSl hL hlen hzm ba oa bb ob kt
 cases zk
 ·go_enter Try.func10, Try.ntmps10
  go_wp2_with fail
  refine C.out.mono ?_
  rintro e w' ⟨rfl, rfl⟩
  go_wp2_with fail
  go_ret
  exact AddPost.stay (by unfold addP; rw [ZK.out]; rfl) ⟨L, H.out.2.2.2.2.2.2.2.2, H.out.1⟩ (H.out.2.2.1.weaken (fun _ _ f => f.elim))
 cases zm
 ·go_enter Try.func10, Try.ntmps10
  go_wp2_with fail
  refine C.out.mono ?_
  rintro e w' ⟨rfl, rfl⟩
  go_wp2_with fail
  refine HM.out.mono ?_
  rintro e w1 ⟨rfl, k1⟩
  have K1 := Lib.hid k1
  clear k1
  go_wp2_with fail
  go_ret
  exact AddPost.stay (by unfold addP; rw [ZK.out, ZM.out]; rfl) ⟨L, H.out.2.2.2.2.2.2.2.2, H.out.1.old K1.out⟩ ((H.out.2.2.1.trans K1.out).weaken (fun _ _ f => f.elim))
 -- is it old, or there?
 have hent : ∀ (args : Array Value) (w : World), (callFunc 27 args).run Try.prog w = .ok (.enter 27 args) w := fun args W => by simp [go_sem, callFunc, Try.func27]; rfl
 have HS := Lib.hid (fun (W : World) (v : Value) (k : Old Wt W) (hs : SeesQ W v L) => contains_q 27 #[.pointer (some ⟨w.heap.size + 1, 0, none⟩)] (staleQ m.tb m.tl m.tc) v L W hs hent (fun x _ W' k' => add1_any x m.tb m.tl m.tc (w.heap.size + 1) W' (by
  have := ((k.trans k').block _ (lt_of_heap H.out.2.2.2.2.1) (fun f => f)).trans H.out.2.2.2.2.1
  simp [World.cell?, this])))
 have hany : L.any (staleQ m.tb m.tl m.tc) = P.any (staleP m.tb m.tl m.tc) := by
  rw [← H.out.2.2.2.2.2.2.2.2, List.any_map]
  rfl
 obtain ⟨zs, hzs⟩ : ∃ z, P.any (staleP m.tb m.tl m.tc) = z := ⟨_, rfl⟩
 have ZS := Lib.hid (show P.any (staleP (link, m.plain).2.tb (link, m.plain).2.tl (link, m.plain).2.tc) = zs from hzs)
 have HA := Lib.hid (hany.trans hzs)
 clear hany hzs hent
 cases zs
 case true =>
  go_enter Try.func10, Try.ntmps10
  go_wp2_with fail
  refine C.out.mono ?_
  rintro e w' ⟨rfl, rfl⟩
  go_wp2_with fail
  refine HM.out.mono ?_
  rintro e w1 ⟨rfl, k1⟩
  obtain ⟨p, n, c, h1, h2, _⟩ := H.out.1.old k1
  obtain ⟨_, g1, _⟩ := blkQu h1
  have SS := Lib.hid (HS.out w1 _ k1 (h2.sees Qy.len (by decide)))
  have K1 := Lib.hid k1
  clear k1 h1 h2
  go_wp2_with fail
  refine SS.out.mono ?_
  rintro e w2 ⟨rfl, k2⟩
  rw [HA.out]
  have K2 := Lib.hid (K1.out.trans k2)
  clear k2
  go_wp2_with fail
  go_ret
  exact AddPost.stay (by unfold addP; rw [ZK.out, ZM.out, ZS.out]; rfl) ⟨L, H.out.2.2.2.2.2.2.2.2, H.out.1.old K2.out⟩ ((H.out.2.2.1.trans K2.out).weaken (fun _ _ f => f.elim))
 obtain ⟨zf, hzf⟩ : ∃ z, decide (most ≤ (P.filter fun y => !dropP m.tb m.tl y).length) = z := ⟨_, rfl⟩
 have ZF := Lib.hid (show decide (most ≤ (P.filter fun y => !dropP (link, m.plain).2.tb (link, m.plain).2.tl y).length) = zf from hzf)
 obtain ⟨P2, hP2⟩ : ∃ P2, (P.filter fun y => !dropP m.tb m.tl y) = P2 := ⟨_, rfl⟩
 have hl2 : P2.length ≤ 10000 := by rw [← hP2]; exact Nat.le_trans (List.length_filter_le _ _) HL.out
 have dl : decide ((P2.length : Int) ≥ (most : Int)) = zf := by
  rw [← hzf, hP2]
  simp
 have dl2 : decide (most ≤ P2.length) = zf := by rw [← hzf, hP2]
 have HP2 := Lib.hid (And.intro hP2 hl2)
 clear hzf hl2
 go_enter Try.func10, Try.ntmps10
 go_wp2_with fail
 refine C.out.mono ?_
 rintro e w' ⟨rfl, rfl⟩
 go_wp2_with fail
 refine HM.out.mono ?_
 rintro e w1 ⟨rfl, k1⟩
 obtain ⟨p, n, c, h1, h2, _⟩ := H.out.1.old k1
 obtain ⟨_, g1, _⟩ := blkQu h1
 have SS := Lib.hid (HS.out w1 _ k1 (h2.sees Qy.len (by decide)))
 have K1 := Lib.hid k1
 clear k1 h1 h2
 go_wp2_with fail
 refine SS.out.mono ?_
 rintro e w2 ⟨rfl, k2⟩
 rw [HA.out]
 have k2' := K1.out.trans k2
 have bt2 := (k2'.block _ (lt_of_heap H.out.2.2.2.2.1) (fun f => f)).trans H.out.2.2.2.2.1
 have t0 : w2.cell? ⟨w.heap.size + 1, 0, none⟩ = some (.int .i64 m.tb) := by simp [World.cell?, bt2]
 have t1 : w2.cell? ⟨w.heap.size + 1, 1, none⟩ = some (.int .u64 (m.tl : Int)) := by simp [World.cell?, bt2]
 have DD := Lib.hid (drop_q m.tb m.tl (⟨L, H.out.2.2.2.2.2.2.2.2, H.out.1.old k2'⟩ : QuP R S w2 qb most P) hm)
 have K2 := Lib.hid k2'
 clear k2 k2' bt2 hP2
 go_wp2_with fail
 refine DD.out.mono ?_
 rintro e w3 ⟨rfl, h3, k3⟩
 rw [HP2.out.1] at h3
 obtain ⟨L3, hL3, h3⟩ := h3
 have hS : ∃ p c, w3.cell? ⟨qb, 0, none⟩ = some (.int .i64 (most : Int)) ∧ w3.cell? ⟨qb, 1, none⟩ = some (.slice p P2.length c) := by
  obtain ⟨p, n, c, h1, h2, _⟩ := h3
  obtain ⟨p', c', e, _, _⟩ := (h2.sees Qy.len (by decide)).len
  simp only [Value.slice.injEq] at e
  obtain ⟨rfl, rfl, rfl⟩ := e
  have e3 : L3.length = P2.length := by rw [← hL3]; simp
  rw [e3] at h1
  exact ⟨p, c, (blkQu h1).1, (blkQu h1).2.1⟩
 obtain ⟨p3, c3, hS⟩ := hS
 have K3 := Lib.hid (And.intro k3 (And.intro hL3 h3))
 clear k3 h3 t0 t1 g1 hL3
 go_wp2_with fail
 refine wp_region_g (S := fun W => W.cell? ⟨qb, 0, none⟩ = some (.int .i64 (most : Int)) ∧ W.cell? ⟨qb, 1, none⟩ = some (.slice p3 P2.length c3)) (M := [0, 1, 2, 3, 4, 5, 6, 7, 8, 9]) (by kernel_rfl) ?_
 have hSS : w3.drew.cell? ⟨qb, 0, none⟩ = some (.int .i64 (most : Int)) ∧ w3.drew.cell? ⟨qb, 1, none⟩ = some (.slice p3 P2.length c3) := hS
 refine wpAnyG_takeL (i := 0) (oi := _) (v := ?vb0) rfl (by kernel_rfl) (by kernel_rfl) (by kernel_rfl) (by kernel_rfl) (fun _ _ _ h => h) (Or.inl ⟨by rfl, ?yb0⟩) hSS ?rb0
 case yb0 => (intro W hSw; go_simp; try with_reducible rfl)
 try simp only [Act.put, List.setIfInBounds_toArray, List.set_cons_zero, List.set_cons_succ]
 refine wpAnyG_takeL (i := 1) (oi := _) (v := ?vb1) rfl (by kernel_rfl) (by kernel_rfl) (by kernel_rfl) (by kernel_rfl) (fun _ _ _ h => h) (Or.inl ⟨by rfl, ?yb1⟩) hSS ?rb1
 case yb1 => (intro W hSw; go_simp; try with_reducible rfl)
 try simp only [Act.put, List.setIfInBounds_toArray, List.set_cons_zero, List.set_cons_succ]
 refine wpAnyG_takeL (i := 2) (oi := _) (v := ?vb2) rfl (by kernel_rfl) (by kernel_rfl) (by kernel_rfl) (by kernel_rfl) (fun _ _ _ h => h) (Or.inl ⟨by rfl, ?yb2⟩) hSS ?rb2
 case yb2 => (intro W hSw; go_simp; try with_reducible rfl)
 try simp only [Act.put, List.setIfInBounds_toArray, List.set_cons_zero, List.set_cons_succ]
 refine wpAnyG_takeL (i := 3) (oi := _) (v := ?vb3) rfl (by kernel_rfl) (by kernel_rfl) (by kernel_rfl) (by kernel_rfl) (fun _ _ _ h => h) (Or.inl ⟨by rfl, ?yb3⟩) hSS ?rb3
 case yb3 => (intro W hSw; obtain ⟨y1, y2⟩ := hSw; go_simp; try with_reducible rfl)
 try simp only [Act.put, List.setIfInBounds_toArray, List.set_cons_zero, List.set_cons_succ]
 refine wpAnyG_takeL (i := 4) (oi := _) (v := ?vb4) rfl (by kernel_rfl) (by kernel_rfl) (by kernel_rfl) (by kernel_rfl) (fun _ _ _ h => h) (Or.inl ⟨by rfl, ?yb4⟩) hSS ?rb4
 case yb4 => (intro W hSw; go_simp; try with_reducible rfl)
 try simp only [Act.put, List.setIfInBounds_toArray, List.set_cons_zero, List.set_cons_succ]
 refine wpAnyG_takeL (i := 5) (oi := _) (v := ?vb5) rfl (by kernel_rfl) (by kernel_rfl) (by kernel_rfl) (by kernel_rfl) (fun _ _ _ h => h) (Or.inl ⟨by rfl, ?yb5⟩) hSS ?rb5
 case yb5 => (intro W hSw; go_simp; try with_reducible rfl)
 try simp only [Act.put, List.setIfInBounds_toArray, List.set_cons_zero, List.set_cons_succ]
 refine wpAnyG_takeL (i := 6) (oi := _) (v := ?vb6) rfl (by kernel_rfl) (by kernel_rfl) (by kernel_rfl) (by kernel_rfl) (fun _ _ _ h => h) (Or.inl ⟨by rfl, ?yb6⟩) hSS ?rb6
 case yb6 => (intro W hSw; go_simp; try with_reducible rfl)
 try simp only [Act.put, List.setIfInBounds_toArray, List.set_cons_zero, List.set_cons_succ]
 refine wpAnyG_takeL (i := 7) (oi := _) (v := ?vb7) rfl (by kernel_rfl) (by kernel_rfl) (by kernel_rfl) (by kernel_rfl) (fun _ _ _ h => h) (Or.inl ⟨by rfl, ?yb7⟩) hSS ?rb7
 case yb7 => (intro W hSw; go_simp; try with_reducible rfl)
 try simp only [Act.put, List.setIfInBounds_toArray, List.set_cons_zero, List.set_cons_succ]
 refine wpAnyG_takeL (i := 8) (oi := _) (v := ?vb8) rfl (by kernel_rfl) (by kernel_rfl) (by kernel_rfl) (by kernel_rfl) (fun _ _ _ h => h) (Or.inl ⟨by rfl, ?yb8⟩) hSS ?rb8
 case yb8 => (intro W hSw; obtain ⟨y1, y2⟩ := hSw; go_simp; try with_reducible rfl)
 try simp only [Act.put, List.setIfInBounds_toArray, List.set_cons_zero, List.set_cons_succ]
 refine wpAnyG_takeL (i := 9) (oi := _) (v := ?vb9) rfl (by kernel_rfl) (by kernel_rfl) (by kernel_rfl) (by kernel_rfl) (fun _ _ _ h => h) (Or.inl ⟨by rfl, ?yb9⟩) hSS ?rb9
 case yb9 => (intro W hSw; go_simp; try with_reducible rfl)
 try simp only [Act.put, List.setIfInBounds_toArray, List.set_cons_zero, List.set_cons_succ]
 cases zf
 case true =>
  refine wpAnyG_done (by kernel_rfl) ?_ _
  go_simp
  go_wp2_with fail
  go_ret
  refine AddPost.stay (by unfold addP; rw [ZK.out, ZM.out, ZS.out, ZF.out]; exact congrArg (Prod.mk (7 : Int)) HP2.out.1) ⟨L3, K3.out.2.1, K3.out.2.2.old ((Keeps.refl _ _).drew)⟩ ?_
  exact (((H.out.2.2.1.trans K2.out).weaken (fun _ _ f => f.elim)).trans K3.out.1).trans ((Keeps.refl _ _).drew)
 -- all that the message's predicate needs
 have hR23 : Keeps R w w3 := ((H.out.2.2.1.trans K2.out).weaken (T := R) (fun _ _ f => f.elim)).trans K3.out.1
 have hR3 : Keeps R w w3.drew := hR23.trans (Keeps.refl _ _).drew
 have hA : ∀ k, w.heap.size ≤ k → ¬ R k := fun k hk hr => by have := H.out.2.2.2.2.2.1 k hr; omega
 have ba3 : MAt w3.drew w.heap.size m := ((K3.out.1.trans (Keeps.refl _ _).drew).block _ (by have := lt_of_heap H.out.2.2.2.1; have := K2.out.size; omega) (hA _ (Nat.le_refl _))).trans ((K2.out.block _ (lt_of_heap H.out.2.2.2.1) (fun f => f)).trans H.out.2.2.2.1)
 have st3 : Steady R w3.drew m := H.out.2.1.to hR3
 have hok : okP m.plain.ps = true := may_query ZM.out (by have := ZK.out; simpa using this)
 have hps := set_small (m := m) hok
 have lm3 := load_msg ba3 (by simp [Ms.cells])
 obtain ⟨Wc, hWc⟩ : ∃ W, w3.drew.alloc (.cells zeroMs.cells.toArray 43) = W := ⟨_, rfl⟩
 have bc : MAt Wc w3.heap.size zeroMs := by rw [← hWc]; exact heap_alloc_new _ _
 have oc : Old w3.drew Wc := by rw [← hWc]; exact (Keeps.refl _ _).alloc _
 obtain ⟨W6, hst6, b6, k6⟩ := store_msg bc m st3.fine.one
 have o6 : Old w3.drew W6 := oc.then k6 (fun i hi e => by simp at hi; omega)
 change w3.drew.alloc (.cells #[.int .i64 0, .int .i64 0, .int .u64 0, .bool false, .slice none 0 0, .int .u64 0, .int .u64 0, .string ⟨#[]⟩, .slice none 0 0, .int .i64 0, .int .u64 0, .int .u64 0, .int .u64 0, .int .u64 0, .int .u64 0, .slice none 0 0, .slice none 0 0, .bool false] 43) = Wc at hWc
 have ba6 := (o6.block _ (lt_of_heap ba3) (fun f => f)).trans ba3
 have c4 : W6.cell? ⟨w.heap.size, 4, none⟩ = some m.pv := by simp [World.cell?, ba6, Ms.cells]
 have CP := Lib.hid (clone_p m.pv m.ps W6 (st3.old o6).fine.1.1.1 (fun x hx => con_one ((st3.old o6).fine.1.1.2 x hx)) (by have := hps.1; omega))
 have X6 := Lib.hid (And.intro hR3 (And.intro st3 (And.intro hps (And.intro o6 (And.intro b6 hok)))))
 clear hR23 hR3 ba3 st3 hok hps bc oc b6 k6 o6 ba6 hSS hS lm
 refine wpAnyG_done (by kernel_rfl) ?_ _
 go_simp
 go_wp2_with fail
 refine CP.out.mono ?_
 rintro e w7 ⟨p5, n5, c5, rfl, o7, k7⟩
 obtain ⟨p', c', e, hle5, hmx5⟩ := (o7.sees (fun _ => rfl) (by decide)).len
 simp only [Value.slice.injEq] at e
 obtain ⟨rfl, rfl, rfl⟩ := e
 obtain ⟨n, hn⟩ : ∃ n, m.ps.length = n := ⟨_, rfl⟩
 have hn6 : n ≤ 6 := by rw [← hn]; exact X6.out.2.2.1.1
 rw [hn] at o7 hle5 ⊢
 have b7 := (k7.block _ (lt_of_heap X6.out.2.2.2.2.1) (fun f => f)).trans X6.out.2.2.2.2.1
 obtain ⟨w8, hst8, b8, k8⟩ := store_pred b7 p5 n c5 m.ps
 have hC : w3.heap.size < W6.heap.size := lt_of_heap X6.out.2.2.2.2.1
 have ob7 : ∀ b, (Value.slice p5 n c5).ownBlock = some b → W6.heap.size ≤ b ∧ b < w7.heap.size := o7.block
 have o8 := o7.keeps k8 (fun b hb e => by have := (ob7 b hb).1; omega)
 have o8old : Old w3.drew w8 := (X6.out.2.2.2.1.trans k7).then k8 (fun i hi e => by simp at hi; omega)
 have c84 : w8.cell? ⟨w3.heap.size, 4, none⟩ = some (.slice p5 n c5) := by simp [World.cell?, b8, Ms.cells]
 have X8 := Lib.hid (And.intro o8 (And.intro b8 (And.intro o8old (And.intro hC (And.intro (fun b hb => (⟨(ob7 b hb).1, Nat.lt_of_lt_of_le (ob7 b hb).2 k8.size⟩ : W6.heap.size ≤ b ∧ b < w8.heap.size)) (And.intro hn (Nat.le_trans k7.size k8.size)))))))
 clear o7 k7 b7 b8 k8 hC ob7 o8 o8old hn hle5 hmx5 hst6 lm3 c4
 go_wp2_with fail
 go_loopw [60] (fun v60 wr => ∃ (i : Nat) (cs : List Con), v60 = .int .i64 i ∧ i ≤ n ∧ cs.length = i ∧ cs.map Con.plain = (m.ps.take i).map Con.plain ∧ OwnsR wr W6.heap.size 69 7 Con.cells (.slice p5 n c5) (cs ++ m.ps.drop i) ∧
   (∀ x ∈ cs, OwnsV wr w8.heap.size x.sv x.set) ∧ MAt wr w3.heap.size { m with pv := .slice p5 n c5 } ∧ Keeps (fun k => (Value.slice p5 n c5).ownBlock = some k) w8 wr) (fun v60 _ => n - (intOf v60).toNat)
 case atStart => exact ⟨0, [], rfl, by omega, rfl, rfl, by simpa using X8.out.1, (fun x hx => by cases hx), X8.out.2.1, Keeps.refl _ _⟩
 case round =>
  obtain ⟨i, cs, rfl, hi, hcl, hcp, ho, hsets, hma, hk⟩ := hrel
  have cw4 : wr.cell? ⟨w3.heap.size, 4, none⟩ = some (.slice p5 n c5) := by simp [World.cell?, hma, Ms.cells]
  have RR := Lib.hid (And.intro hcl (And.intro hcp (And.intro ho (And.intro hsets (And.intro hma hk)))))
  clear hcl hcp ho hsets hma hk
  by_cases hlt : i < n
  ·have hx : m.ps[i]? = some (m.ps[i]'(by rw [X8.out.2.2.2.2.2.1]; exact hlt)) := List.getElem?_eq_getElem _
   generalize m.ps[i]'(by rw [X8.out.2.2.2.2.2.1]; exact hlt) = x0 at hx
   have hx0 : (cs ++ m.ps.drop i)[i]? = some x0 := by
    rw [List.getElem?_append_right (by rw [RR.out.1]; exact Nat.le_refl _), RR.out.1, Nat.sub_self, List.getElem?_drop, Nat.add_zero]
    exact hx
   have hlenL : (cs ++ m.ps.drop i).length = n := by simp [RR.out.1, X8.out.2.2.2.2.2.1]; omega
   obtain ⟨g, cap, cur, e, _, hgg, _, _, _, _⟩ := RR.out.2.2.1.row (by
    rcases RR.out.2.2.1.2 with ⟨_, h0⟩ | ⟨g, cap, cur, e, _⟩
    ·omega
    ·rw [e]; simp [Value.ownBlock])
   simp only [Value.slice.injEq] at e
   obtain ⟨rfl, -, rfl⟩ := e
   have hgb := X8.out.2.2.2.2.1 g rfl
   have hkold : Old w3.drew wr := X8.out.2.2.1.then RR.out.2.2.2.2.2 (fun j hj e => by
    have e' : g = j := by simpa [Value.ownBlock] using e
    have := X8.out.2.2.2.1
    have := hgb.1
    simp at hj
    omega)
   have ho' : OwnsR wr W6.heap.size 69 7 Con.cells (.slice (some ⟨g, 0, none⟩) (cs ++ m.ps.drop i).length c5) (cs ++ m.ps.drop i) := by rw [hlenL]; exact RR.out.2.2.1
   have cset : wr.cell? ⟨g, i * 7 + 6, none⟩ = some x0.sv := by
    obtain ⟨_, _, _, e, _, _, hcell⟩ := (ho'.sees (fun _ => rfl) (by decide)).at (by omega)
    simp only [Value.slice.injEq, Option.some.injEq, Addr.mk.injEq, and_true, true_and] at e
    obtain ⟨⟨rfl, rfl⟩, _⟩ := e
    simpa using hcell i x0 hx0 6 _ rfl
   have hxm : x0 ∈ m.ps := List.mem_of_getElem? hx
   have hfx := (X6.out.2.1.old hkold).fine.1.1.2 x0 hxm
   have CS := Lib.hid (clone_s x0.sv x0.set wr.drew hfx.1 (fun y _ => by simp [valL, Value.oneCell']) (by have := X6.out.2.2.1.2 x0 hxm; omega))
   have hSr : wr.drew.cell? ⟨w3.heap.size, 4, none⟩ = some (.slice (some ⟨g, 0, none⟩) n c5) ∧ wr.drew.cell? ⟨g, i * 7 + 6, none⟩ = some x0.sv := ⟨cw4, cset⟩
   have Y := Lib.hid (And.intro hx (And.intro hx0 (And.intro hlenL (And.intro hgb (And.intro ho' (show i < n from hlt))))))
   clear hx hx0 hlenL hgb ho' hgg hkold hxm hfx cset
   go_wp2_with fail
   refine wp_region_g (S := fun W => W.cell? ⟨w3.heap.size, 4, none⟩ = some (.slice (some ⟨g, 0, none⟩) n c5) ∧ W.cell? ⟨g, i * 7 + 6, none⟩ = some x0.sv) (M := [0, 1, 2, 3, 4, 5, 6, 7, 8, 9, 10, 11]) (by kernel_rfl) ?_
   refine wpAnyG_takeL (i := 0) (oi := _) (v := ?vd0) rfl (by kernel_rfl) (by kernel_rfl) (by kernel_rfl) (by kernel_rfl) (fun _ _ _ h => h) (Or.inl ⟨by rfl, ?yd0⟩) hSr ?rd0
   case yd0 => (intro W hSw; go_simp; try with_reducible rfl)
   try simp only [Act.put, List.setIfInBounds_toArray, List.set_cons_zero, List.set_cons_succ]
   refine wpAnyG_takeL (i := 1) (oi := _) (v := ?vd1) rfl (by kernel_rfl) (by kernel_rfl) (by kernel_rfl) (by kernel_rfl) (fun _ _ _ h => h) (Or.inl ⟨by rfl, ?yd1⟩) hSr ?rd1
   case yd1 => (intro W hSw; obtain ⟨y1, y2⟩ := hSw; go_simp; try with_reducible rfl)
   try simp only [Act.put, List.setIfInBounds_toArray, List.set_cons_zero, List.set_cons_succ]
   refine wpAnyG_takeL (i := 2) (oi := _) (v := ?vd2) rfl (by kernel_rfl) (by kernel_rfl) (by kernel_rfl) (by kernel_rfl) (fun _ _ _ h => h) (Or.inl ⟨by rfl, ?yd2⟩) hSr ?rd2
   case yd2 => (intro W hSw; go_simp; try with_reducible rfl)
   try simp only [Act.put, List.setIfInBounds_toArray, List.set_cons_zero, List.set_cons_succ]
   refine wpAnyG_takeL (i := 3) (oi := _) (v := ?vd3) rfl (by kernel_rfl) (by kernel_rfl) (by kernel_rfl) (by kernel_rfl) (fun _ _ _ h => h) (Or.inl ⟨by rfl, ?yd3⟩) hSr ?rd3
   case yd3 => (intro W hSw; go_simp; try with_reducible rfl)
   try simp only [Act.put, List.setIfInBounds_toArray, List.set_cons_zero, List.set_cons_succ]
   refine wpAnyG_takeL (i := 4) (oi := _) (v := ?vd4) rfl (by kernel_rfl) (by kernel_rfl) (by kernel_rfl) (by kernel_rfl) (fun _ _ _ h => h) (Or.inl ⟨by rfl, ?yd4⟩) hSr ?rd4
   case yd4 => (intro W hSw; obtain ⟨y1, y2⟩ := hSw; go_simp; try with_reducible rfl)
   try simp only [Act.put, List.setIfInBounds_toArray, List.set_cons_zero, List.set_cons_succ]
   refine wpAnyG_takeL (i := 5) (oi := _) (v := ?vd5) rfl (by kernel_rfl) (by kernel_rfl) (by kernel_rfl) (by kernel_rfl) (fun _ _ _ h => h) (Or.inl ⟨by rfl, ?yd5⟩) hSr ?rd5
   case yd5 => (intro W hSw; go_simp; try with_reducible rfl)
   try simp only [Act.put, List.setIfInBounds_toArray, List.set_cons_zero, List.set_cons_succ]
   refine wpAnyG_takeL (i := 6) (oi := _) (v := ?vd6) rfl (by kernel_rfl) (by kernel_rfl) (by kernel_rfl) (by kernel_rfl) (fun _ _ _ h => h) (Or.inl ⟨by rfl, ?yd6⟩) hSr ?rd6
   case yd6 => (intro W hSw; go_simp; try with_reducible rfl)
   try simp only [Act.put, List.setIfInBounds_toArray, List.set_cons_zero, List.set_cons_succ]
   refine wpAnyG_takeL (i := 7) (oi := _) (v := ?vd7) rfl (by kernel_rfl) (by kernel_rfl) (by kernel_rfl) (by kernel_rfl) (fun _ _ _ h => h) (Or.inl ⟨by rfl, ?yd7⟩) hSr ?rd7
   case yd7 => (intro W hSw; go_simp; try with_reducible rfl)
   try simp only [Act.put, List.setIfInBounds_toArray, List.set_cons_zero, List.set_cons_succ]
   refine wpAnyG_takeL (i := 8) (oi := _) (v := ?vd8) rfl (by kernel_rfl) (by kernel_rfl) (by kernel_rfl) (by kernel_rfl) (fun _ _ _ h => h) (Or.inl ⟨by rfl, ?yd8⟩) hSr ?rd8
   case yd8 => (intro W hSw; obtain ⟨y1, y2⟩ := hSw; go_simp; try with_reducible rfl)
   try simp only [Act.put, List.setIfInBounds_toArray, List.set_cons_zero, List.set_cons_succ]
   refine wpAnyG_onlyL (i := 9) (o := _) (by kernel_rfl) rfl (fun K hK => ?_)
   go_simp
   refine CS.out.mono ?_
   rintro e w9 ⟨p6, n6, c6, rfl, o9, k9⟩
   have hS9 : w9.cell? ⟨w3.heap.size, 4, none⟩ = some (.slice (some ⟨g, 0, none⟩) n c5) ∧ w9.cell? ⟨g, i * 7 + 6, none⟩ = some x0.sv := ⟨k9.cell hSr.1 (fun f => f), k9.cell hSr.2 (fun f => f)⟩
   have k9' : Old wr w9 := (Keeps.refl _ wr).drew.trans k9
   have o9' := Y.out.2.2.2.2.1.old k9'
   have st9 := run_store_one (P := Try.prog) (ty := 67) (o9'.there (i * 7 + 6) 1 (by rw [Y.out.2.2.1]; have := Y.out.2.2.2.2.2; omega)) (.slice p6 n6 c6) rfl (by kernel_rfl) rfl
   have o10 := OwnsR.setOne (k := 7) (enc := Con.cells) (fun _ => rfl) o9' i 6 x0 { x0 with sv := .slice p6 n6 c6 } (.slice p6 n6 c6) (by decide) Y.out.2.1 rfl
   obtain ⟨w10, hw10⟩ : ∃ W, w9.setCell ⟨g, i * 7 + 6, none⟩ (.slice p6 n6 c6) = W := ⟨_, rfl⟩
   have k10 : Keeps (fun k => k = g) w9 w10 := by rw [← hw10]; exact keepS _ (Keeps.refl _ _)
   rw [hw10] at st9 o10
   have Z := Lib.hid (And.intro o9 (And.intro k9' (And.intro o10 k10)))
   clear o9 k9 k9' o9' o10 k10 hw10
   go_wp2_with fail
   refine hK.out _ _ (fun _ => hS9) ?_
   clear hK K
   try simp only [Act.put, List.setIfInBounds_toArray, List.set_cons_zero, List.set_cons_succ]
   refine wpAnyG_onlyL (i := 10) (o := _) (by kernel_rfl) rfl (fun K hK => ?_)
   go_simp
   refine hK.out _ _ (fun _ => hS9) ?_
   clear hK K
   try simp only [Act.put, List.setIfInBounds_toArray, List.set_cons_zero, List.set_cons_succ]
   refine wpAnyG_onlyL (i := 11) (o := _) (by kernel_rfl) rfl (fun K hK => ?_)
   go_simp
   refine hK.out _ _ (fun _ => hS9) ?_
   clear hK K
   try simp only [Act.put, List.setIfInBounds_toArray, List.set_cons_zero, List.set_cons_succ]
   refine wpAnyG_onlyL (i := 12) (o := _) (by kernel_rfl) rfl (fun K hK => ?_)
   go_simp
   refine hK.out _ _ (fun h => absurd h (by decide)) ?_
   clear hK K
   refine wpAnyG_done (by kernel_rfl) ?_ _
   go_simp
   go_wp2_with fail
   go_roundw
   case rel =>
    have hgQ : ∀ b, w8.heap.size ≤ b → ¬ b = g := fun b hb e => by have := Y.out.2.2.2.1.2; omega
    refine ⟨i + 1, cs ++ [{ x0 with sv := .slice p6 n6 c6 }], by go_num, by have := Y.out.2.2.2.2.2; omega, by simp [RR.out.1], ?_, ?_, ?_, ?_, ?_⟩
    ·rw [List.map_append, RR.out.2.1, List.take_add_one, Y.out.1]
     simp [Con.plain]
    ·have e2 : (cs ++ m.ps.drop i).set i { x0 with sv := .slice p6 n6 c6 } = cs ++ [{ x0 with sv := .slice p6 n6 c6 }] ++ m.ps.drop (i + 1) := by
      rw [List.set_append_right _ _ (by rw [RR.out.1]; exact Nat.le_refl _), RR.out.1, Nat.sub_self, List.drop_eq_getElem_cons (by rw [X8.out.2.2.2.2.2.1]; exact Y.out.2.2.2.2.2), List.set_cons_zero, List.append_assoc]
      rfl
     have := Z.out.2.2.1
     rw [e2] at this
     have e3 := Y.out.2.2.1
     rw [e3] at this
     exact this
    ·intro x hx
     rcases List.mem_append.1 hx with hx | hx
     ·exact ((RR.out.2.2.2.1 x hx).old Z.out.2.1).keeps Z.out.2.2.2 (fun b hb => hgQ b ((RR.out.2.2.2.1 x hx).block b hb).1)
     ·obtain rfl : x = { x0 with sv := .slice p6 n6 c6 } := by simpa using hx
      exact (Z.out.1.mono (by have := RR.out.2.2.2.2.2.size; simpa using this)).keeps Z.out.2.2.2 (fun b hb => hgQ b (Nat.le_trans (by have := RR.out.2.2.2.2.2.size; simpa using this) (Z.out.1.block b hb).1))
    ·have l1 := lt_of_heap RR.out.2.2.2.2.1
     exact (Z.out.2.2.2.block _ (Nat.lt_of_lt_of_le l1 Z.out.2.1.size) (by have := Y.out.2.2.2.1.1; have := X8.out.2.2.2.1; omega)).trans ((Z.out.2.1.block _ l1 (fun f => f)).trans RR.out.2.2.2.2.1)
    ·exact (RR.out.2.2.2.2.2.trans (Z.out.2.1.weaken (fun _ _ f => f.elim))).trans (Z.out.2.2.2.weaken (fun j _ e => by subst e; rfl))
   case measure => simp [intOf]; omega
  ·have hin : i = n := by omega
   subst hin
   have hdrop : m.ps.drop i = [] := List.drop_of_length_le (by rw [X8.out.2.2.2.2.2.1]; exact Nat.le_refl _)
   have htake : m.ps.take i = m.ps := List.take_of_length_le (by rw [X8.out.2.2.2.2.2.1]; exact Nat.le_refl _)
   have ho := RR.out.2.2.1
   have hcp := RR.out.2.1
   rw [hdrop, List.append_nil] at ho
   rw [htake] at hcp
   have hkold : Old w3.drew wr := X8.out.2.2.1.then RR.out.2.2.2.2.2 (fun j hj e => by
    have := X8.out.2.2.2.1
    have := (X8.out.2.2.2.2.1 j e).1
    simp at hj
    omega)
   have hSl : ∀ k, S k → k < W6.heap.size := fun k hk => by
    have := K3.out.2.2.facts.2.2 k hk
    have := X8.out.2.2.2.1
    omega
   have hsw := pred_swap (X6.out.2.1.old hkold).fine (query_rest ZM.out (show m.plain.kind = 5 by have := ZK.out; simpa using this)) hSl ho RR.out.2.2.2.1 X8.out.2.2.2.2.2.2 hcp
   have hQ := (K3.out.2.2.old (Keeps.refl _ _).drew).old hkold
   have hma := RR.out.2.2.2.2.1
   obtain ⟨m2, hm2⟩ : ∃ m2 : Ms, ({ m with pv := .slice p5 i c5, ps := cs } : Ms) = m2 := ⟨_, rfl⟩
   have hma2 : MAt wr w3.heap.size m2 := by rw [← hm2]; exact hma
   rw [hm2] at hsw
   obtain ⟨y, hy⟩ : ∃ y : Qy, (⟨link, m2⟩ : Qy) = y := ⟨_, rfl⟩
   have hq0 := hQ
   obtain ⟨pq, nq, cq, q1', q2', q3', q4', q5', q6', q7'⟩ := hq0
   have cq1 : wr.cell? ⟨qb, 1, none⟩ = some (.slice pq nq cq) := (blkQu q1').2.1
   have hone : ∀ z ∈ [y], ∀ u ∈ z.cells, u.oneCell' = true := by
    intro z hz
    obtain rfl : z = y := by simpa using hz
    intro u hu
    have := hsw.1.fine.one
    rw [Array.all_eq_true_iff_forall_mem] at this
    rw [← hy] at hu
    rcases List.mem_cons.1 hu with rfl | hu
    ·rfl
    ·exact this u (by simpa using hu)
   have hL3 : L3.length ≤ 10000 := by
    have e := congrArg List.length K3.out.2.1
    rw [List.length_map] at e
    rw [e]
    exact HP2.out.2
   have hSw0 : wr.drew.cell? ⟨qb, 1, none⟩ = some (.slice pq nq cq) ∧ wr.drew.heap[w3.heap.size]? = some (.cells m2.cells.toArray 43 (0, 0)) := ⟨cq1, hma2⟩
   have Y := Lib.hid (And.intro hsw (And.intro hQ (And.intro q1' (And.intro q2' (And.intro q5' (And.intro hone (And.intro hL3 (And.intro hkold hSl))))))))
   have sn := SeesR.new (k := 19) (enc := Qy.cells) wr.drew 87 (0, 0) [y] y.cells.toArray (by simp) Qy.len (by unfold maxLen; simp)
   have SN := Lib.hid sn
   have hcy : (#[.int .i64 link] ++ m2.cells.toArray : Array Value) = y.cells.toArray := by rw [← hy]; simp [Qy.cells]
   clear hdrop htake ho hcp hkold hSl hsw hQ hma q1' q2' q3' q4' q5' q6' q7' hone hL3 sn hm2 cq1
   go_wp2_with fail
   refine wp_region_g (S := fun W => W.cell? ⟨qb, 1, none⟩ = some (.slice pq nq cq) ∧ W.heap[w3.heap.size]? = some (.cells m2.cells.toArray 43 (0, 0))) (M := [0, 1, 2, 3, 4, 5, 6, 7, 8, 9, 10, 11]) (by kernel_rfl) ?_
   refine wpAnyG_takeL (i := 0) (oi := _) (v := ?vf0) rfl (by kernel_rfl) (by kernel_rfl) (by kernel_rfl) (by kernel_rfl) (fun _ _ _ h => h) (Or.inl ⟨by rfl, ?yf0⟩) hSw0 ?rf0
   case yf0 => (intro W hSw; go_simp; try with_reducible rfl)
   try simp only [Act.put, List.setIfInBounds_toArray, List.set_cons_zero, List.set_cons_succ]
   refine wpAnyG_takeL (i := 1) (oi := _) (v := ?vf1) rfl (by kernel_rfl) (by kernel_rfl) (by kernel_rfl) (by kernel_rfl) (fun _ _ _ h => h) (Or.inl ⟨by rfl, ?yf1⟩) hSw0 ?rf1
   case yf1 => (intro W hSw; go_simp; try with_reducible rfl)
   try simp only [Act.put, List.setIfInBounds_toArray, List.set_cons_zero, List.set_cons_succ]
   refine wpAnyG_takeL (i := 2) (oi := _) (v := ?vf2) rfl (by kernel_rfl) (by kernel_rfl) (by kernel_rfl) (by kernel_rfl) (fun _ _ _ h => h) (Or.inl ⟨by rfl, ?yf2⟩) hSw0 ?rf2
   case yf2 => (intro W hSw; go_simp; try with_reducible rfl)
   try simp only [Act.put, List.setIfInBounds_toArray, List.set_cons_zero, List.set_cons_succ]
   refine wpAnyG_takeL (i := 3) (oi := _) (v := ?vf3) rfl (by kernel_rfl) (by kernel_rfl) (by kernel_rfl) (by kernel_rfl) (fun _ _ _ h => h) (Or.inl ⟨by rfl, ?yf3⟩) hSw0 ?rf3
   case yf3 => (intro W hSw; go_simp; try with_reducible rfl)
   try simp only [Act.put, List.setIfInBounds_toArray, List.set_cons_zero, List.set_cons_succ]
   refine wpAnyG_takeL (i := 4) (oi := _) (v := ?vf4) rfl (by kernel_rfl) (by kernel_rfl) (by kernel_rfl) (by kernel_rfl) (fun _ _ _ h => h) (Or.inl ⟨by rfl, ?yf4⟩) hSw0 ?rf4
   case yf4 => (intro W hSw; obtain ⟨y1, y2⟩ := hSw; go_simp; try with_reducible rfl)
   try simp only [Act.put, List.setIfInBounds_toArray, List.set_cons_zero, List.set_cons_succ]
   refine wpAnyG_takeL (i := 5) (oi := _) (v := ?vf5) rfl (by kernel_rfl) (by kernel_rfl) (by kernel_rfl) (by kernel_rfl) (fun _ _ _ h => h) (Or.inl ⟨by rfl, ?yf5⟩) hSw0 ?rf5
   case yf5 => (intro W hSw; go_simp; try with_reducible rfl)
   try simp only [Act.put, List.setIfInBounds_toArray, List.set_cons_zero, List.set_cons_succ]
   refine wpAnyG_takeL (i := 6) (oi := _) (v := ?vf6) rfl (by kernel_rfl) (by kernel_rfl) (by kernel_rfl) (by kernel_rfl) (fun _ _ _ h => h) (Or.inl ⟨by rfl, ?yf6⟩) hSw0 ?rf6
   case yf6 => (intro W hSw; obtain ⟨y1, y2⟩ := hSw; have y3 := load_msg y2 (by simp [Ms.cells]); go_simp; try with_reducible rfl)
   try simp only [Act.put, List.setIfInBounds_toArray, List.set_cons_zero, List.set_cons_succ]
   refine wpAnyG_takeL (i := 7) (oi := _) (v := .agg y.cells.toArray) rfl (by kernel_rfl) (by kernel_rfl) (by kernel_rfl) (by kernel_rfl) (fun _ _ _ h => h) (Or.inl ⟨by rfl, fun W _ => by rw [← hy]; exact run_build_q rfl link m2 rfl rfl W⟩) hSw0 ?rf7
   try simp only [Act.put, List.setIfInBounds_toArray, List.set_cons_zero, List.set_cons_succ]
   refine wpAnyG_onlyL (i := 8) (o := _) (by kernel_rfl) rfl (fun K hK => ?_)
   refine step_value rfl _ (run_slice_q rfl y rfl _) ?_
   have oD : Old wr.drew (wr.drew.alloc (.cells y.cells.toArray 87)) := (Keeps.refl _ _).alloc _
   have hSw1 : (wr.drew.alloc (.cells y.cells.toArray 87)).cell? ⟨qb, 1, none⟩ = some (.slice pq nq cq) ∧ (wr.drew.alloc (.cells y.cells.toArray 87)).heap[w3.heap.size]? = some (.cells m2.cells.toArray 43 (0, 0)) := ⟨oD.cell hSw0.1 (fun f => f), (oD.block _ (lt_of_heap hSw0.2) (fun f => f)).trans hSw0.2⟩
   have oO : OwnsQ (wr.drew.alloc (.cells y.cells.toArray 87)) 0 (.slice pq nq cq) L3 := Y.out.2.2.2.1.old ((Keeps.refl (fun _ => False) wr).drew.trans oD)
   have OO := Lib.hid (And.intro oO oD)
   clear oO oD
   refine hK.out _ _ (fun _ => hSw1) ?_
   clear hK K
   try simp only [Act.put, List.setIfInBounds_toArray, List.set_cons_zero, List.set_cons_succ]
   refine wpAnyG_onlyL (i := 9) (o := _) (by kernel_rfl) rfl (fun K hK => ?_)
   refine step_append_rows (P := Try.prog) rfl _ _ 80 rfl 0 87 19 224 Qy.cells _ Try.underlying80 Try.infoQw rfl (by decide) (.slice pq nq cq) L3 (by rfl) OO.out.1 _ [y] (by rfl) SN.out (fun _ _ => Qy.len _) Y.out.2.2.2.2.2.1 (by have := Y.out.2.2.2.2.2.2.1; unfold maxLen; simp; omega) (by have := Y.out.2.2.2.2.2.2.1; simp; omega) (Nat.zero_le _) ?_
   intro v' w11 ho11 hg11 hv11
   obtain ⟨p', c', hv', _, _⟩ := (ho11.sees Qy.len (by decide)).len
   subst hv'
   obtain ⟨n', hn'⟩ : ∃ n', (L3 ++ [y]).length = n' := ⟨_, rfl⟩
   rw [hn'] at ho11 hv11 ⊢
   have hqlt : ∀ b, (Value.slice pq nq cq).ownBlock = some b → R b ∧ b ≠ qb := Y.out.2.2.2.2.1
   have hRl : ∀ k, R k → k < w.heap.size := H.out.2.2.2.2.2.1
   have hszr : w.heap.size ≤ wr.heap.size := by
    have h1 := H.out.2.2.1.size
    have h2 := K2.out.size
    have h3 := K3.out.1.size
    have h4 := Y.out.2.2.2.2.2.2.2.1.size
    simp at h4
    omega
   have kr11 : Keeps R wr w11 := (((Keeps.refl R wr).drew).trans (OO.out.2.weaken (fun _ _ f => f.elim))).grown hg11 (fun k hk _ => (hqlt k hk).1)
   have hgk : Keeps (fun k => (Value.slice pq nq cq).ownBlock = some k) (wr.drew.alloc (.cells y.cells.toArray 87)) w11 := (Keeps.refl _ _).grown hg11 (fun k hk _ => hk)
   have hC3 : ¬ (Value.slice pq nq cq).ownBlock = some w3.heap.size := fun e => by
    have h1 := hRl _ (hqlt _ e).1
    have h2 := H.out.2.2.1.size
    have h3 := K2.out.size
    have h4 := K3.out.1.size
    omega
   have hSw11 : w11.cell? ⟨qb, 1, none⟩ = some (.slice pq nq cq) ∧ w11.heap[w3.heap.size]? = some (.cells m2.cells.toArray 43 (0, 0)) := ⟨hgk.cell hSw1.1 (fun e => (hqlt _ e).2 rfl), (hgk.block _ (lt_of_heap hSw1.2) hC3).trans hSw1.2⟩
   have hq11 : w11.heap[qb]? = some (.cells #[.int .i64 (most : Int), .slice pq nq cq] 82 (0, 0)) := (hgk.block qb (by have := lt_of_heap Y.out.2.2.1; simp; omega) (fun e => (hqlt _ e).2 rfl)).trans ((OO.out.2.block qb (lt_of_heap Y.out.2.2.1) (fun f => f)).trans Y.out.2.2.1)
   obtain ⟨w12, hst12, hq12, k12⟩ := store_cell (o := 1) (ty := 80) hq11 (.slice p' n' c') rfl (by simp) (by kernel_rfl) rfl rfl
   have kr12 : Keeps R wr w12 := kr11.trans (k12.weaken (fun j _ e => by subst e; exact H.out.2.2.2.2.2.2.1))
   have hown' : ∀ k, (Value.slice p' n' c').ownBlock = some k → R k ∨ wr.heap.size ≤ k := fun k hk => by
    rcases hv11 with e | e
    ·rw [e] at hk; exact .inl (hqlt k hk).1
    ·rw [e] at hk
     have : (wr.drew.alloc (.cells y.cells.toArray 87)).heap.size = k := by simpa using hk
     simp at this
     right
     omega
   have hlt12 : ∀ k, (Value.slice p' n' c').ownBlock = some k → k < w12.heap.size ∧ k ≠ qb := fun k hk => by
    have h1 := (ho11.block k hk).2
    refine ⟨Nat.lt_of_lt_of_le h1 k12.size, ?_⟩
    rcases hv11 with e | e
    ·rw [e] at hk; exact (hqlt k hk).2
    ·rw [e] at hk
     have : (wr.drew.alloc (.cells y.cells.toArray 87)).heap.size = k := by simpa using hk
     simp at this
     have := lt_of_heap Y.out.2.2.1
     omega
   have F := Lib.hid (And.intro hq12 (And.intro (ho11.keeps k12 (fun b hb e => (hlt12 b hb).2 e)) (And.intro kr12 (And.intro hown' (And.intro hlt12 hszr)))))
   clear ho11 hg11 hv11 hqlt kr11 hgk hC3 hq11 hq12 k12 kr12 hown' hlt12 hszr hRl
   refine hK.out _ _ (fun _ => hSw11) ?_
   clear hK K
   try simp only [Act.put, List.setIfInBounds_toArray, List.set_cons_zero, List.set_cons_succ]
   refine wpAnyG_onlyL (i := 10) (o := _) (by kernel_rfl) rfl (fun K hK => ?_)
   go_simp
   refine hK.out _ _ (fun _ => hSw11) ?_
   clear hK K
   try simp only [Act.put, List.setIfInBounds_toArray, List.set_cons_zero, List.set_cons_succ]
   refine wpAnyG_onlyL (i := 11) (o := _) (by kernel_rfl) rfl (fun K hK => ?_)
   go_simp
   refine hK.out _ _ (fun _ => hSw11) ?_
   clear hK K
   try simp only [Act.put, List.setIfInBounds_toArray, List.set_cons_zero, List.set_cons_succ]
   refine wpAnyG_onlyL (i := 12) (o := _) (by kernel_rfl) rfl (fun K hK => ?_)
   go_simp
   refine hK.out _ _ (fun h => absurd h (by decide)) ?_
   clear hK K
   refine wpAnyG_done (by kernel_rfl) ?_ _
   go_simp
   go_wp2_with fail
   go_ret
   have hkR : Keeps R w wr := ((((H.out.2.2.1.trans K2.out).weaken (T := R) (fun _ _ f => f.elim)).trans K3.out.1).trans (Keeps.refl R w3).drew).trans (Y.out.2.2.2.2.2.2.2.1.weaken (fun _ _ f => f.elim))
   have hRS : ∀ k, R k → S k := H.out.2.2.2.2.2.2.2.1
   have hSl : ∀ k, S k → k < w3.heap.size := K3.out.2.2.facts.2.2
   have hwr : w3.heap.size ≤ wr.heap.size := by have := Y.out.2.2.2.2.2.2.2.1.size; simpa using this
   have hx : ∀ k, (S k ∨ (R k ∨ (Value.slice p' n' c').ownBlock = some k)) → S k ∨ wr.heap.size ≤ k := fun k hk => by
    rcases hk with hk | hk | hk
    ·exact .inl hk
    ·exact .inl (hRS k hk)
    ·rcases F.out.2.2.2.1 k hk with h | h
     ·exact .inl (hRS k h)
     ·exact .inr h
   have kS12 : Keeps (fun k => S k ∨ (R k ∨ (Value.slice p' n' c').ownBlock = some k)) wr w12 := F.out.2.2.1.weaken (fun _ _ h => .inr (.inl h))
   refine ⟨fun k => R k ∨ (Value.slice p' n' c').ownBlock = some k, fun k hk => ?_, fun k hk => .inl hk, ?_, ⟨L3 ++ [y], ?_, p', n', c', by simpa using F.out.1, F.out.2.1, fun z hz => ?_, .inl H.out.2.2.2.2.2.2.1, fun b hb => ⟨.inr hb, (F.out.2.2.2.2.1 b hb).2⟩, fun k hk => .inr hk, fun k hk => ?_⟩, hkR.trans F.out.2.2.1⟩
   ·rcases hk with hk | hk
    ·exact .inl hk
    ·rcases F.out.2.2.2.1 k hk with h | h
     ·exact .inl h
     ·exact .inr (Nat.le_trans F.out.2.2.2.2.2 h)
   ·unfold addP
    rw [ZK.out, ZM.out, ZS.out, ZF.out]
    rfl
   ·unfold addP
    rw [ZK.out, ZM.out, ZS.out, ZF.out, List.map_append, K3.out.2.1]
    have e1 : (P.filter fun y => !dropP (link, m.plain).2.tb (link, m.plain).2.tl y) = P2 := HP2.out.1
    have e2 : [y].map Qy.plain = [(link, m.plain)] := by
     have := Y.out.1.2
     simp [← hy, Qy.plain, this]
    rw [e2, ← e1]
    rfl
   ·rcases List.mem_append.1 hz with hz | hz
    ·obtain ⟨_, _, _, _, _, hs, _⟩ := Y.out.2.1
     exact ((hs z hz).ext hx).to kS12
    ·obtain rfl : z = y := by simpa using hz
     have := (Y.out.1.1.ext hx).to kS12
     rw [← hy]
     exact this
   ·rcases hk with hk | hk | hk
    ·exact Nat.lt_of_lt_of_le (hSl k hk) (Nat.le_trans hwr F.out.2.2.1.size)
    ·exact Nat.lt_of_lt_of_le (hSl k (hRS k hk)) (Nat.le_trans hwr F.out.2.2.1.size)
    ·exact (F.out.2.2.2.2.1 k hk).1
theorem add_q {R S : Nat → Prop} {w : World} {qb most : Nat} {P : List (Int × PMs)} (link : Int) (m : Ms) (h : QuP R S w qb most P) (hm : 1 ≤ most) (hlen : P.length ≤ 10000) (hst : Steady S w m) :
  Calls Try.prog 10 #[.pointer (some ⟨qb, 0, none⟩), .int .i64 link, .agg m.cells.toArray] w (AddPost R S w qb most P (link, m.plain)) :=
 add_q2 link m h hm hlen (fun W hW => hst W (hW.weaken (fun k _ hk => h.facts.2.1 k hk)))
end Go.Proofs.Ytiednihagnehlaa
