/- DERIVED. overlap: the names' iterator, whose round may leave. · DERIVED. overlap: Apart, Overlaps. -/
import Derived.Test.YtehmlaplodjenaaGreatZTopDual18
import Derived.OwnWalkIn
import Derived.TacticsInMore
import Derived.Deep.DeepCutAuto
import Derived.RangeFuncCalls
set_option maxRecDepth 100000
set_option maxHeartbeats 4000000
namespace Go.Proofs.YtehmlaplodjenaaGreat
section
open Go.RowKit
attribute [local go_sem] Oper.semAt_some
abbrev lrecD (fn : FuncId) (tmps : Array Value) (ps : Array Tmp) (assign body : Code) (D : Nat) (st : LoopState) : Loop := { state := st, pending := some .ret, fn := fn, tmps := tmps, params := ps, assign := assign, body := body, defers := D }
theorem wp_rangeFuncR {P : Program} {g : Operand} {ps : Array Tmp} {assign body : Code} {Q : Exit → Act → World → Prop} {a : Act} {w : World} {gf : Nat} {lb : Array Value}
    (hg : a.eval g = .func (.func gf) #[] lb) (eg : ∀ args w, (callFunc gf args).run P w = .ok (.enter gf args) w)
    (h : ∀ fn, Calls P gf (#[.func (.yield (w.heap.size + 1)) #[] #[]] ++ lb) (loopW w (lrec fn a.tmps ps assign body w.heap.size .ready)) fun e W' =>
      (∃ v, e = .returned v) ∧
      ((W'.heap[w.heap.size + 1]? = some (.loop (lrec fn a.tmps ps assign body w.heap.size .ready)) ∧ Q .normal { a with defers := { target := .collected w.heap.size, args := #[] } :: a.defers } (W'.putObj (w.heap.size + 1) (.loop (lrec fn a.tmps ps assign body w.heap.size .exhausted)))) ∨
       (W'.heap[w.heap.size + 1]? = some (.loop (lrecD fn a.tmps ps assign body w.heap.size .done)) ∧ Q .ret { a with defers := { target := .collected w.heap.size, args := #[] } :: a.defers } (W'.putObj (w.heap.size + 1) (.loop (lrecD fn a.tmps ps assign body w.heap.size .exhausted)))))) :
    (Code.rangeFunc g ps assign body).wp P Q a w := by
  refine (wpIn_wide (n := 1)).1 (wpIn_rangeFunc ?_)
  intro fn _
  refine ⟨w.heap.size + 1, [{ target := .collected w.heap.size, args := #[] }], loopW w (lrec fn a.tmps ps assign body w.heap.size .ready), { target := .fn (.func gf) lb, args := #[.func (.yield (w.heap.size + 1)) #[] #[]] },
    loopW w (lrec fn a.tmps ps assign body w.heap.size .ready), gf, #[.func (.yield (w.heap.size + 1)) #[] #[]] ++ lb, loopW w (lrec fn a.tmps ps assign body w.heap.size .ready), ?_, ?_, ?_, ?_, fun _ => Nat.le_refl _, ?_⟩
  · exact run_enterLoop_outer _ _ _ _ _
  · simp only [resolve, hg]
    simp [go_sem]
  · intro f' _; trivial
  · simp [invoke, go_sem, eg]
  · refine callsIn_wide.2 ((h fn).mono ?_)
    rintro e W' ⟨⟨v, rfl⟩, ⟨hl, hq⟩ | ⟨hl, hq⟩⟩
    · exact ⟨none, _, run_endLoop hl (by simp), hq⟩
    · exact ⟨some .ret, _, run_endLoop hl (by simp), wpIn_ret hq⟩
def RoundB (P : Program) (l : Nat) (args : Array Value) (W : World) (R : Bool → World → Prop) : Prop :=
  ∃ fn tmps assign body, (Instr.yield l args).run P W = .ok (.round l fn tmps assign body) W ∧ RoundIn Fence.wide 0 P l fn tmps assign body W fun e w' => ∃ b, e = .returned (.bool b) ∧ R b w'
theorem RoundB.of {P : Program} {l : Nat} {args : Array Value} {W : World} {R : Bool → World → Prop} {fn : FuncId} {tmps : Array Value} {ps : Array Tmp} {assign body : Code} {D : Nat}
    (hl : W.heap[l]? = some (.loop (lrec fn tmps ps assign body D .ready))) (hs : args.size = ps.size)
    (h : assign.wpIn (Fence.wide.inRound l) 0 P (Exit.then (fun a₁ w₁ => w₁.heap[l]? = some (.loop (lrec fn tmps ps assign body D .ready)) ∧
      body.wpIn (Fence.wide.inRound l) 0 P (fun e _ w₂ => w₂.heap[l]? = some (.loop (lrec fn tmps ps assign body D .busy)) ∧
        ((e = .normal ∧ R true (w₂.putObj l (.loop (lrec fn tmps ps assign body D .ready)))) ∨ (e = .ret ∧ R false (w₂.putObj l (.loop (lrecD fn tmps ps assign body D .done)))))) a₁ (w₁.putObj l (.loop (lrec fn tmps ps assign body D .busy)))) (fun _ _ _ => False))
      { tmps := (ps.zip args).foldl (fun t (p, v) => t.setIfInBounds p v) tmps, defers := [] } W) : RoundB P l args W R := by
  refine ⟨fn, _, assign, body, run_yield hl hs, roundIn_of_wpIn trivial (wpIn_mono h ?_)⟩
  intro e a w hq
  cases e with
  | normal =>
    obtain ⟨hl1, hb⟩ := hq
    refine ⟨_, run_beginRound hl1 rfl, wpIn_mono hb ?_⟩
    rintro e2 a2 w2 ⟨hl2, ⟨rfl, hR⟩ | ⟨rfl, hR⟩⟩
    · exact ⟨_, _, run_endRound none hl2, true, rfl, hR⟩
    · exact ⟨_, _, run_endRound (some .ret) hl2, false, rfl, hR⟩
  | ret => exact hq.elim
  | exit id => exact hq.elim
  | goto t => exact hq.elim
  | panic ch => exact hq.elim
  | outgrown => exact hq.elim
theorem OwnsR.neE {α : Type} {w : World} {B k : Nat} {E t : TypeId} {enc : α → List Value} {v : Value} {l : List α} {i : Nat} {cs : Array Value} {fr : Nat × Nat} (h : OwnsR w B E k enc v l) (hk : w.heap[i]? = some (.cells cs t fr)) (hE : E ≠ t) : ¬ v.ownBlock = some i := by
  intro e
  rcases h.2 with ⟨rfl, _⟩ | ⟨g, cap, cur, rfl, hb, hg, _⟩
  · simp [Value.ownBlock] at e
  · simp only [Value.ownBlock, Option.some.injEq] at e
    subst e
    rw [hg] at hk
    simp only [Option.some.injEq, Obj.cells.injEq] at hk
    exact hE hk.2.1
theorem AskM.keep {w : World} {v1 v2 : Value} {lp lq : List Con} {nb bb pb qb : Nat} {nv : Value} {L : List (List UInt8)} {W W' : World} (h : AskM w v1 v2 lp lq nb bb pb qb nv L W) (k : Keeps (fun k => nv.ownBlock = some k) W W') :
    Old w W' ∧ W'.heap[pb]? = some (.cells #[v1] 39 (0, 0)) ∧ W'.heap[qb]? = some (.cells #[v2] 39 (0, 0)) ∧
    W'.heap[bb]? = some (.cells #[.func (.func 145) #[] #[.pointer (some ⟨pb, 0, none⟩), .pointer (some ⟨qb, 0, none⟩)]] (195) (0, 0)) :=
  ⟨h.old.then k (fun i hi e => by have := (h.own.block i e).1; omega), (k.block _ (lt_of_heap h.p) (h.own.neE h.p (by decide))).trans h.p, (k.block _ (lt_of_heap h.q) (h.own.neE h.q (by decide))).trans h.q, (k.block _ (lt_of_heap h.b) (h.own.neE h.b (by decide))).trans h.b⟩
theorem asked2_any (w : World) (v1 v2 : Value) (lp lq : List Con) (nb bb pb qb : Nat) (nv : Value) (L : List (List UInt8)) (W0 : World) (hm : AskM w v1 v2 lp lq nb bb pb qb nv L W0)
    (h1 : Cons w v1 lp) (h2 : Cons w v2 lq) (k1 : predOk lp = true) (k2 : predOk lq = true) (l : Nat) (JF : World → Prop)
    (hR : ∀ s g W, Keeps (fun k => nv.ownBlock = some k) W0 W → SeesG W g (bothR lp lq s) → RoundB Tryz.prog l #[.string s, g] W (fun b W' => if b then Old W W' ∧ emptyR (bothR lp lq s) = false else JF W' ∧ emptyR (bothR lp lq s) = true)) :
    Calls Tryz.prog 146 #[.func (.yield l) #[] #[], .pointer (some ⟨nb, 0, none⟩), .pointer (some ⟨bb, 0, none⟩)] W0 fun e W' => (∃ u, e = .returned u) ∧
      ((Keeps (fun k => nv.ownBlock = some k) W0 W' ∧ ∀ s ∈ L, emptyR (bothR lp lq ⟨s.toArray⟩) = false) ∨ (JF W' ∧ ∃ s ∈ L, emptyR (bothR lp lq ⟨s.toArray⟩) = true)) := by
  have HR := Lib.hid hR
  have H := Lib.hid (And.intro hm (And.intro h1 (And.intro h2 (And.intro k1 k2))))
  have q := (blk1 hm.n).1
  have CS := Lib.hid (compact_strs nv L w.heap.size W0 hm.own (by have := hm.len; omega))
  obtain ⟨p0, c0, e0, _, _⟩ := (OwnsR.sees (enc := oneL encStr) hm.own (fun _ => rfl) (by decide)).len
  clear hR hm h1 h2 k1 k2
  subst e0
  go_enter Tryz.func146, Tryz.ntmps146
  go_wp2_with fail
  refine CS.out.mono ?_
  rintro e W1 ⟨v', rfl, M, hM, hml, ho, hbk, k1⟩
  obtain ⟨p3, c3, e3, _, _⟩ := (OwnsR.sees (enc := oneL encStr) ho (fun _ => rfl) (by decide)).len
  have hm9 : M.length ≤ 9223372036854775807 := by have := H.out.1.len; omega
  have C := Lib.hid (And.intro ho (And.intro k1 (And.intro hM hbk)))
  clear hM hml ho k1 hbk q
  subst e3
  go_wp2_with fail
  go_loopw [9] (fun v9 wr => ∃ i : Nat, i ≤ M.length ∧ v9 = .int .i64 i ∧ Old W1 wr ∧ ∀ s ∈ M.take i, emptyR (bothR lp lq ⟨s.toArray⟩) = false) (fun v9 _ => M.length - (intOf v9).toNat)
  case atStart => exact ⟨0, Nat.zero_le _, rfl, Keeps.refl _ _, fun s hs => by simp at hs⟩
  case round =>
    obtain ⟨wq, hwq⟩ : ∃ wq : World, wq = wr := ⟨_, rfl⟩
    subst hwq
    obtain ⟨i, hi, rfl, hk, hall⟩ := hrel
    by_cases hlt : i < M.length
    · obtain ⟨b, o, cp, he, _, _, hc⟩ := (OwnsR.sees (enc := oneL encStr) C.out.1 (fun _ => rfl) (by decide)).at (by omega)
      simp only [Value.slice.injEq, true_and] at he
      obtain ⟨rfl, rfl⟩ := he
      obtain ⟨s, hs⟩ : ∃ s, M[i]? = some s := ⟨_, List.getElem?_eq_getElem hlt⟩
      have x0 := hk.cell (hc i s hs 0 _ rfl) (fun f => f)
      simp only [Nat.add_zero, Nat.mul_one] at x0
      have kk := C.out.2.1.then hk (fun _ _ f => f.elim)
      obtain ⟨ow, bp, bq, bf⟩ := H.out.1.keep kk
      have q5 := (blk1 bf).1
      have BA := Lib.hid (both_any pb qb v1 v2 lp lq ⟨s.toArray⟩ wq bp bq (H.out.2.1.old ow) (H.out.2.2.1.old ow) H.out.2.2.2.1 H.out.2.2.2.2)
      have G := Lib.hid (And.intro hk (And.intro hall (And.intro hs kk)))
      clear hk hall hs kk ow bp bq bf hc
      go_upto_region 3 with fail
      refine (wpIn_wide (n := 1)).1 ?_
      gi_wp2
      refine ⟨trivial, callsIn_wide.2 (BA.out.mono ?_)⟩
      rintro e w2 ⟨g, rfl, sg, k2⟩
      obtain ⟨fn, tmps, assign, body, hy, hr⟩ := HR.out ⟨s.toArray⟩ g w2 (G.out.2.2.2.then k2 (fun _ _ f => f.elim)) sg
      have K2 := Lib.hid (G.out.1.trans k2)
      have HRD := Lib.hid hr
      clear k2 sg hr
      gi_wp2
      refine HRD.out.mono ?_
      rintro e W3 ⟨z, rfl, hz⟩
      clear hy
      cases z
      · have HZ := Lib.hid hz
        clear hz
        gi_wp2
        go_wp2_with fail
        exact bodyPost_ret (v := .tuple #[]) (by simp [results, Tryz.results146, go_sem]) rfl ⟨⟨_, rfl⟩, .inr ⟨HZ.out.1, s, (C.out.2.2.1 s).1 (List.mem_of_getElem? G.out.2.2.1), HZ.out.2⟩⟩
      · have HZ := Lib.hid (show Old w2 W3 ∧ emptyR (bothR lp lq ⟨s.toArray⟩) = false from hz)
        clear hz
        gi_wp2
        go_wp2_with fail
        go_roundw
        case rel =>
          refine ⟨i + 1, by omega, by go_num, K2.out.trans HZ.out.1, fun x hx => ?_⟩
          rw [List.take_add_one, G.out.2.2.1, List.mem_append] at hx
          rcases hx with hx | hx
          · exact G.out.2.1 x hx
          · simp only [Option.toList_some, List.mem_singleton] at hx
            subst hx
            exact HZ.out.2
        case measure => simp [intOf]; omega
    · have E := Lib.hid (And.intro (C.out.2.1.then hk (fun _ _ f => f.elim)) hall)
      have hnl : ¬ i < M.length := hlt
      have hil : i = M.length := by omega
      clear hk hall
      go_wp2_with fail
      go_end0
      refine ⟨⟨_, rfl⟩, .inl ⟨E.out.1, fun x hx => E.out.2 x ?_⟩⟩
      rw [List.take_of_length_le (by omega)]
      exact (C.out.2.2.1 x).2 hx
end
section
open Go.RowKit
attribute [local go_sem] Oper.semAt_some
theorem AskM.to {w : World} {v1 v2 : Value} {lp lq : List Con} {nb bb pb qb : Nat} {nv : Value} {L : List (List UInt8)} {W W' : World} (h : AskM w v1 v2 lp lq nb bb pb qb nv L W) (k : Old W W') : AskM w v1 v2 lp lq nb bb pb qb nv L W' :=
  ⟨h.old.trans k, (k.block _ (lt_of_heap h.p) (fun f => f)).trans h.p, (k.block _ (lt_of_heap h.q) (fun f => f)).trans h.q, (k.block _ (lt_of_heap h.n) (fun f => f)).trans h.n, (k.block _ (lt_of_heap h.b) (fun f => f)).trans h.b, h.own.old k, h.all, h.len⟩
theorem OwnsR.neO {α : Type} {w : World} {B k : Nat} {E : TypeId} {enc : α → List Value} {v : Value} {l : List α} {i : Nat} {o : Obj} (h : OwnsR w B E k enc v l) (hk : w.heap[i]? = some o) (ho : ∀ cs fr, o ≠ .cells cs E fr) : ¬ v.ownBlock = some i := by
  intro e
  rcases h.2 with ⟨rfl, _⟩ | ⟨g, cap, cur, rfl, hb, hg, _⟩
  · simp [Value.ownBlock] at e
  · simp only [Value.ownBlock, Option.some.injEq] at e
    subst e
    rw [hg] at hk
    simp only [Option.some.injEq] at hk
    exact ho _ _ hk.symm
theorem put_namedD {Q : Exit → Act → World → Prop} {W2 : World} {n : Nat} {o : Obj} {E : Exit} {A : Act} (h : ∀ W3, W3 = W2.putObj n o → Q E A W3) : Q E A (W2.putObj n o) := h _ rfl
theorem wpIn_namedD {c : Code} {F : Fence} {n : Nat} {P : Program} {Q : Exit → Act → World → Prop} {a : Act} {W2 : World} {l : Nat} {o : Obj} (h : ∀ W3, W3 = W2.putObj l o → c.wpIn F n P Q a W3) : c.wpIn F n P Q a (W2.putObj l o) := h _ rfl
theorem SeesR.neL {α : Type} {w : World} {k : Nat} {enc : α → List Value} {v : Value} {l : List α} (hs : SeesR w k enc v l) (hl : 0 < l.length) (hk : ∀ x, ∃ u r, enc x = u :: r) {i : Nat} {o : Loop} (ho : w.heap[i]? = some (.loop o)) (b : Nat) (e : v.ownBlock = some b) : b ≠ i := by
  rintro rfl
  obtain ⟨b', o', c, rfl, _, _, hc⟩ := hs.at hl
  simp only [Value.ownBlock, Option.some.injEq] at e
  subst e
  obtain ⟨u, r, hu⟩ := hk l[0]
  have := hc 0 _ (List.getElem?_eq_getElem hl) 0 u (by rw [hu]; rfl)
  simp [World.cell?, ho] at this
theorem SeesG.loop {w w' : World} {v : Value} {r : Rg} {i : Nat} {o : Loop} (h : SeesG w v r) (ho : w.heap[i]? = some (.loop o)) (k : Keeps (fun k => k = i) w w') : SeesG w' v r := by
  obtain ⟨p0, n0, c0, p1, n1, c1, p2, n2, c2, e, h1, h2, h3⟩ := h
  have en : ∀ x : Span, ∃ u r, spanL x = u :: r := fun x => ⟨_, _, rfl⟩
  exact ⟨p0, n0, c0, p1, n1, c1, p2, n2, c2, e, h1.keepsN k (fun hl b e f => h1.neL hl en ho b e f), h2.keepsN k (fun hl b e f => h2.neL hl en ho b e f), h3.keepsN k (fun hl b e f => h3.neL hl en ho b e f)⟩
theorem post_plain {P : Program} {fn : Func} {R : Ending → World → Prop} {a : Act} {w : World} {v : Value} (hd : a.defers = []) (hr : (results fn a.tmps).run P w = .ok v w) (hR : R (.returned v) w) : bodyPostM Fence.wide 0 P fn R .ret a w := by
  show LeavesInM Fence.wide 0 P fn a.tmps R a.defers .returning w
  rw [hd]
  exact ⟨v, hr, hR⟩
theorem ready_again {W W1 W2 : World} {l : Nat} {r1 r0 : Loop} (hl : W.heap[l]? = some (.loop r0)) (o1 : Old W W1) (o2 : Old (W1.putObj l (.loop r1)) W2) : Old W (W2.putObj l (.loop r0)) := by
  have hz : l < W.heap.size := lt_of_heap hl
  have k1 : Keeps (fun k => k = l) W1 (W1.putObj l (.loop r1)) := (Keeps.refl (fun k => k = l) W1).putObj (fun _ => rfl) _
  have k2 : Keeps (fun k => k = l) W2 (W2.putObj l (.loop r0)) := (Keeps.refl (fun k => k = l) W2).putObj (fun _ => rfl) _
  have z1 := o1.size
  have z2 := k1.size
  have z3 := o2.size
  refine ⟨(k2.os.trans (o2.os.trans (k1.os.trans o1.os))), (k2.tape.trans (o2.tape.trans (k1.tape.trans o1.tape))), (k2.output.trans (o2.output.trans (k1.output.trans o1.output))), by have := k2.size; omega, fun k hk _ => ?_⟩
  by_cases h : k = l
  · subst h
    rw [World.putObj_heap_same (by omega), hl]
  · rw [k2.block k (by omega) h, o2.block k (by omega) (fun f => f), k1.block k (by omega) h, o1.block k hk (fun f => f)]
theorem apart_no {lp lq : List Con} {L : List (List UInt8)} (hL : ∀ s, s ∈ L ↔ s ∈ lp.map nameL ∨ s ∈ lq.map nameL) (h : ∀ s ∈ L, emptyR (bothR lp lq ⟨s.toArray⟩) = false) : apartR (lp.map Con.plain) (lq.map Con.plain) = false := by
  unfold apartR
  rw [List.any_eq_false]
  intro c hc
  rw [← List.map_append, List.mem_map] at hc
  obtain ⟨x, hx, rfl⟩ := hc
  have := h (nameL x) ((hL _).2 (by rcases List.mem_append.1 hx with hx | hx; exact .inl (List.mem_map_of_mem hx); exact .inr (List.mem_map_of_mem hx)))
  unfold nameL at this
  rw [mk_toList] at this
  unfold bothR at this
  simp only [Con.plain]
  rw [this]
  decide
theorem apart_yes {lp lq : List Con} {L : List (List UInt8)} (hL : ∀ s, s ∈ L ↔ s ∈ lp.map nameL ∨ s ∈ lq.map nameL) (h : ∃ s ∈ L, emptyR (bothR lp lq ⟨s.toArray⟩) = true) : apartR (lp.map Con.plain) (lq.map Con.plain) = true := by
  obtain ⟨s, hs, he⟩ := h
  unfold apartR
  rw [List.any_eq_true]
  have key : ∃ x ∈ lp ++ lq, nameL x = s := by
    rcases (hL s).1 hs with h | h
    · obtain ⟨x, hx, e⟩ := List.mem_map.1 h
      exact ⟨x, List.mem_append.2 (.inl hx), e⟩
    · obtain ⟨x, hx, e⟩ := List.mem_map.1 h
      exact ⟨x, List.mem_append.2 (.inr hx), e⟩
  obtain ⟨x, hx, rfl⟩ := key
  refine ⟨x.plain, by rw [← List.map_append]; exact List.mem_map_of_mem hx, ?_⟩
  unfold nameL at he
  rw [mk_toList] at he
  exact he
theorem wp_rangeFuncD {P : Program} {g : Operand} {ps : Array Tmp} {assign body : Code} {Q : Exit → Act → World → Prop} {a : Act} {w : World} {gf : Nat} {lb : Array Value}
    (hg : a.eval g = .func (.func gf) #[] lb) (eg : ∀ args w, (callFunc gf args).run P w = .ok (.enter gf args) w)
    (h : ∀ fn (r d : LoopState → Loop), (r = fun st => lrec fn a.tmps ps assign body w.heap.size st) → (d = fun st => lrecD fn a.tmps ps assign body w.heap.size st) → Calls P gf (#[.func (.yield (w.heap.size + 1)) #[] #[]] ++ lb) (loopW w (r .ready)) fun e W' =>
      (∃ v, e = .returned v) ∧
      ((W'.heap[w.heap.size + 1]? = some (.loop (r .ready)) ∧ Q .normal { a with defers := { target := .collected w.heap.size, args := #[] } :: a.defers } (W'.putObj (w.heap.size + 1) (.loop (r .exhausted)))) ∨
       (W'.heap[w.heap.size + 1]? = some (.loop (d .done)) ∧ Q .ret { a with defers := { target := .collected w.heap.size, args := #[] } :: a.defers } (W'.putObj (w.heap.size + 1) (.loop (d .exhausted)))))) :
    (Code.rangeFunc g ps assign body).wp P Q a w := wp_rangeFuncR hg eg (fun fn => h fn _ _ rfl rfl)
theorem enters_asked2 : ∀ args W, (callFunc 146 args).run Tryz.prog W = .ok (.enter 146 args) W := fun args W => by simp [go_sem, callFunc, Tryz.func146]; rfl
theorem two_setD {W : World} {b c : Nat} {t u : TypeId} {x0 y0 : Value} (hb : W.heap[b]? = some (.cells #[x0] t (0, 0))) (hc : W.heap[c]? = some (.cells #[y0] u (0, 0))) (hne : b ≠ c) (x y : Value) :
    ((W.setCell ⟨b, 0, none⟩ x).setCell ⟨c, 0, none⟩ y).heap[b]? = some (.cells #[x] t (0, 0)) ∧ ((W.setCell ⟨b, 0, none⟩ x).setCell ⟨c, 0, none⟩ y).heap[c]? = some (.cells #[y] u (0, 0)) ∧
    Keeps (fun k => k = b ∨ k = c) W ((W.setCell ⟨b, 0, none⟩ x).setCell ⟨c, 0, none⟩ y) := by
  have k1 := keepV W b 0 x
  have k2 := keepV (W.setCell ⟨b, 0, none⟩ x) c 0 y
  have f1 := blk1_setD hb x
  have f2 := (k1.block c (lt_of_heap hc) (fun e => hne e.symm)).trans hc
  exact ⟨(k2.block b (lt_of_heap f1) hne).trans f1, blk1_setD f2 y, (k1.weaken (fun _ _ e => .inl e)).trans (k2.weaken (fun _ _ e => .inr e))⟩
theorem Apart_any (v1 v2 : Value) (lp lq : List Con) (w : World) (h1 : Cons w v1 lp) (h2 : Cons w v2 lq) :
    Calls Tryz.prog 44 #[v1, v2] w fun e w' => ∃ nm z, e = .returned (.tuple #[.string nm, .bool z]) ∧ ((predOk lp && predOk lq) = true → z = apartR (lp.map Con.plain) (lq.map Con.plain)) ∧ Old w w' := by
  obtain ⟨p1, c1, e1, _, _⟩ := h1.1.len
  obtain ⟨p2, c2, e2, _, _⟩ := h2.1.len
  obtain ⟨W0, hW0⟩ : ∃ W0, (w.alloc (.cells #[.string ⟨#[]⟩] 9)).alloc (.cells #[.bool false] 4) = W0 := ⟨_, rfl⟩
  have o0 : Old w W0 := by rw [← hW0]; exact ((Keeps.refl _ _).alloc _).alloc _
  obtain ⟨b1, b2⟩ := two_blocks w (.cells #[.string ⟨#[]⟩] 9) (.cells #[.bool false] 4)
  rw [hW0] at b1 b2
  have zw : W0.heap.size = w.heap.size + 2 := by rw [← hW0]; simp
  have MM := Lib.hid (omay_any v1 v2 lp lq W0 (h1.old o0) (h2.old o0))
  have H := Lib.hid (And.intro (h1.old o0) (And.intro (h2.old o0) (And.intro o0 (And.intro b1 (And.intro b2 zw)))))
  clear h1 h2 o0 b1 b2 zw
  subst e1 e2
  refine calls_of_marks Tryz.func44 rfl ?_
  simp only [Tryz.ntmps44, List.size_toArray, List.length_cons, List.length_nil, Nat.reduceAdd, Nat.reduceSub, Array.replicate_succ, Array.replicate_zero, List.push_toArray, List.append_toArray, List.nil_append, List.cons_append]
  go_upto_region 1 with fail
  clear hW0
  rcases (Bool.eq_false_or_eq_true (predOk lp && predOk lq)).symm with hp | hp
  · have HP := Lib.hid hp
    rw [hp] at MM
    clear hp
    go_wp2_with fail
    refine MM.out.mono ?_
    rintro e W1 ⟨rfl, k1⟩
    have q1 := blk1 ((k1.block _ (lt_of_heap H.out.2.2.2.1) (fun f => f)).trans H.out.2.2.2.1)
    have q2 := blk1 ((k1.block _ (lt_of_heap H.out.2.2.2.2.1) (fun f => f)).trans H.out.2.2.2.2.1)
    have K := Lib.hid (H.out.2.2.1.trans k1)
    have TT := Lib.hid (two_setD ((k1.block _ (lt_of_heap H.out.2.2.2.1) (fun f => f)).trans H.out.2.2.2.1) ((k1.block _ (lt_of_heap H.out.2.2.2.2.1) (fun f => f)).trans H.out.2.2.2.2.1) (by omega) (.string ⟨#[]⟩) (.bool false))
    clear k1
    go_wp2_with fail
    have T := TT.out
    clear TT
    obtain ⟨W9, hW9⟩ : ∃ W9, (W1.setCell ⟨w.heap.size, 0, none⟩ (.string ⟨#[]⟩)).setCell ⟨w.heap.size + 1, 0, none⟩ (.bool false) = W9 := ⟨_, rfl⟩
    rw [hW9] at T ⊢
    have r1 := blk1 T.1
    have r2 := blk1 T.2.1
    exact post_plain (v := .tuple #[.string ⟨#[]⟩, .bool false]) rfl (by simp [results, Tryz.results44, go_sem, r1, r2]) ⟨_, _, rfl, (fun (h : (predOk lp && predOk lq) = true) => absurd (HP.out.symm.trans h) (by decide)), K.out.then T.2.2 (fun i hi e => by rcases e with e | e <;> omega)⟩
  have k1p : predOk lp = true := by cases h : predOk lp <;> simp_all
  have k2p : predOk lq = true := by cases h : predOk lq <;> simp_all
  have HK := Lib.hid (And.intro k1p k2p)
  rw [hp] at MM
  clear hp k1p k2p
  go_wp2_with fail
  refine MM.out.mono ?_
  rintro e W1 ⟨rfl, k1⟩
  have AS := Lib.hid (asked_any _ _ lp lq W1 (H.out.1.old k1) (H.out.2.1.old k1) HK.out.1 HK.out.2)
  have K1 := Lib.hid k1
  clear k1
  go_wp2_with fail
  refine AS.out.mono ?_
  rintro e W2 ⟨nb, bb, nv, L, rfl, hm⟩
  have k2 := K1.out.trans hm.old
  have hz2 : W1.heap.size < W2.heap.size := lt_of_heap hm.p
  have A := Lib.hid (And.intro hm (And.intro ((k2.block _ (lt_of_heap H.out.2.2.2.1) (fun f => f)).trans H.out.2.2.2.1) (And.intro ((k2.block _ (lt_of_heap H.out.2.2.2.2.1) (fun f => f)).trans H.out.2.2.2.2.1) (And.intro (H.out.2.2.1.trans k2) (show w.heap.size + 2 ≤ W1.heap.size by rw [← H.out.2.2.2.2.2]; exact K1.out.size)))))
  clear hm k2 hz2
  go_wp2_with fail
  refine wp_rangeFuncD (gf := 146) (lb := #[.pointer (some ⟨nb, 0, none⟩), .pointer (some ⟨bb, 0, none⟩)]) rfl enters_asked2 (fun fn r d hr hd => ?_)
  have ol := loopW_old W2 (r .ready)
  have hml := A.out.1.to ol
  have fl := loopW_rec W2 (r .ready)
  have fd := loopW_def W2 (r .ready)
  have hlo : ∀ k, nv.ownBlock = some k → W1.heap.size ≤ k := fun k e => (hml.own.block k e).1
  have nl : ¬ nv.ownBlock = some (W2.heap.size + 1) := hml.own.neO fl (fun _ _ => by simp)
  have nd : ¬ nv.ownBlock = some W2.heap.size := hml.own.neO fd (fun _ _ => by simp)
  have c4 := (ol.block _ (lt_of_heap A.out.2.1) (fun f => f)).trans A.out.2.1
  have c5 := (ol.block _ (lt_of_heap A.out.2.2.1) (fun f => f)).trans A.out.2.2.1
  have hw2 : W1.heap.size ≤ W2.heap.size := A.out.1.old.size
  have B := Lib.hid (And.intro hml (And.intro fl (And.intro fd (And.intro hlo (And.intro nl (And.intro nd (And.intro c4 (And.intro c5 (And.intro (A.out.2.2.2.1.trans ol) (And.intro A.out.2.2.2.2 hw2))))))))))
  clear ol hml fl fd hlo nl nd c4 c5 hw2
  refine (asked2_any W1 _ _ lp lq nb bb _ _ nv L _ B.out.1 (H.out.1.old K1.out) (H.out.2.1.old K1.out) HK.out.1 HK.out.2 (W2.heap.size + 1) (fun W' => W'.heap[W2.heap.size + 1]? = some (.loop (d .done)) ∧ (∃ nm, W'.heap[w.heap.size]? = some (.cells #[.string nm] 9 (0, 0))) ∧ W'.heap[w.heap.size + 1]? = some (.cells #[.bool true] 4 (0, 0)) ∧ W'.heap[W2.heap.size]? = some (.deferred (some [])) ∧ Old w W') ?_).mono ?_
  · intro s g W kW sg
    obtain ⟨x1, x2, x3, x4, x5, x6, x7, x8, x9, rfl, SS⟩ := sg
    have e1 := (kW.block _ (lt_of_heap B.out.2.1) B.out.2.2.2.2.1).trans B.out.2.1
    have e2 := (kW.block _ (lt_of_heap B.out.2.2.1) B.out.2.2.2.2.2.1).trans B.out.2.2.1
    have e4 := (kW.block _ (lt_of_heap B.out.2.2.2.2.2.2.1) (fun e => by have := B.out.2.2.2.1 _ e; have := B.out.2.2.2.2.2.2.2.2.2.1; omega)).trans B.out.2.2.2.2.2.2.1
    have e5 := (kW.block _ (lt_of_heap B.out.2.2.2.2.2.2.2.1) (fun e => by have := B.out.2.2.2.1 _ e; have := B.out.2.2.2.2.2.2.2.2.2.1; omega)).trans B.out.2.2.2.2.2.2.2.1
    have ow := B.out.2.2.2.2.2.2.2.2.1.then kW (fun i hi e => by have := B.out.2.2.2.1 _ e; have := B.out.2.2.2.2.2.2.2.2.2.1; omega)
    have e1' := e1
    simp only [hr] at e1'
    refine RoundB.of e1' rfl ?_
    have hrr := hr
    have hdd := hd
    clear hr hd
    obtain ⟨X, hX⟩ : ∃ X, bothR lp lq s = X := ⟨_, rfl⟩
    rw [hX] at SS ⊢
    clear hX
    obtain ⟨W4, hW4⟩ : ∃ W4, W.alloc (.cells #[.slice x1 x2 x3, .slice x4 x5 x6, .slice x7 x8 x9, .bool X.odd] 102) = W4 := ⟨_, rfl⟩
    have o4 : Old W W4 := by rw [← hW4]; exact (Keeps.refl _ _).alloc _
    have b4 : W4.heap[W.heap.size]? = some (.cells #[.slice x1 x2 x3, .slice x4 x5 x6, .slice x7 x8 x9, .bool X.odd] 102 (0, 0)) := by rw [← hW4]; exact heap_alloc_new _ _
    have D := Lib.hid (And.intro e1 (And.intro e2 (And.intro e4 (And.intro e5 (And.intro ow (And.intro o4 (And.intro b4 (show SeesG W4 (.agg #[.slice x1 x2 x3, .slice x4 x5 x6, .slice x7 x8 x9, .bool X.odd]) X from ⟨_, _, _, _, _, _, _, _, _, rfl, SS.1.old o4, SS.2.1.old o4, SS.2.2.old o4⟩))))))))
    have HR := Lib.hid (And.intro hrr hdd)
    clear e1 e2 e4 e5 ow o4 b4 SS e1' hrr hdd kW
    gi_wp2
    have el4 := (D.out.2.2.2.2.2.1.block _ (lt_of_heap D.out.1) (fun f => f)).trans D.out.1
    refine ⟨by have h := el4; simp only [HR.out.1] at h; exact h, ?_⟩
    refine wpIn_namedD (fun W5 hW5 => ?_)
    have hW5' : W5 = W4.putObj (W2.heap.size + 1) (.loop (r .busy)) := by rw [hW5]; simp only [HR.out.1]
    clear hW4 hW5
    have hzl := lt_of_heap el4
    have hb5 : W5.heap[W2.heap.size + 1]? = some (.loop (r .busy)) := by rw [hW5']; exact World.putObj_heap_same hzl
    have k5 : Keeps (fun k => k = W2.heap.size + 1) W4 W5 := by rw [hW5']; exact (Keeps.refl (fun k => k = W2.heap.size + 1) W4).putObj (fun _ => rfl) _
    have hzl0 := lt_of_heap D.out.1
    have q7 := blk4 ((k5.block _ (lt_of_heap D.out.2.2.2.2.2.2.1) (by omega)).trans D.out.2.2.2.2.2.2.1)
    have EM := Lib.hid (empty_any _ X W5 (D.out.2.2.2.2.2.2.2.loop el4 k5))
    have f2 := (k5.block _ (by have := B.out.2.2.2.2.2.2.2.2.2; omega) (by omega)).trans ((D.out.2.2.2.2.2.1.block _ (lt_of_heap D.out.2.1) (fun f => f)).trans D.out.2.1)
    have f4 := (k5.block _ (by have := B.out.2.2.2.2.2.2.2.2.2; omega) (by have := B.out.2.2.2.2.2.2.2.2.2; omega)).trans ((D.out.2.2.2.2.2.1.block _ (lt_of_heap D.out.2.2.1) (fun f => f)).trans D.out.2.2.1)
    have f5 := (k5.block _ (by have := B.out.2.2.2.2.2.2.2.2.2; omega) (by have := B.out.2.2.2.2.2.2.2.2.2; omega)).trans ((D.out.2.2.2.2.2.1.block _ (lt_of_heap D.out.2.2.2.1) (fun f => f)).trans D.out.2.2.2.1)
    have E := Lib.hid (And.intro hb5 (And.intro f2 (And.intro f4 (And.intro f5 (And.intro hW5' ((D.out.2.2.2.2.1.trans D.out.2.2.2.2.2.1).then k5 (fun i hi e => by have := B.out.2.2.2.2.2.2.2.2.2; omega)))))))
    clear hb5 k5 f2 f4 f5 el4 hW5' hzl hzl0
    obtain ⟨z, hz⟩ : ∃ z, emptyR X = z := ⟨_, rfl⟩
    rw [hz] at EM ⊢
    clear hz
    cases z
    · gi_wp2
      refine ⟨trivial, rfl, (callsIn_wide.2 (EM.out.mono ?_)).inRound _⟩
      rintro e W6 ⟨rfl, k6⟩
      have fin : W6.heap[W2.heap.size + 1]? = some (.loop (r .busy)) := (k6.block _ (lt_of_heap E.out.1) (fun f => f)).trans E.out.1
      have again := ready_again (r1 := r .busy) D.out.1 D.out.2.2.2.2.2.1 (by rw [← E.out.2.2.2.2.1]; exact k6)
      have F := Lib.hid (And.intro fin again)
      clear fin again k6
      gi_wp2
      have F9 := F.out
      simp only [HR.out.1] at F9
      exact F9
    · gi_wp2
      refine ⟨trivial, rfl, (callsIn_wide.2 (EM.out.mono ?_)).inRound _⟩
      rintro e W6 ⟨rfl, k6⟩
      have g4 := (k6.block _ (lt_of_heap E.out.2.2.1) (fun f => f)).trans E.out.2.2.1
      have g5 := (k6.block _ (lt_of_heap E.out.2.2.2.1) (fun f => f)).trans E.out.2.2.2.1
      have T := two_setD g4 g5 (by omega) (.string s) (.bool true)
      have fin := (T.2.2.block _ (Nat.lt_of_lt_of_le (lt_of_heap E.out.1) k6.size) (by have := B.out.2.2.2.2.2.2.2.2.2; omega)).trans ((k6.block _ (lt_of_heap E.out.1) (fun f => f)).trans E.out.1)
      have fin2 := (T.2.2.block _ (Nat.lt_of_lt_of_le (lt_of_heap E.out.2.1) k6.size) (by have := B.out.2.2.2.2.2.2.2.2.2; omega)).trans ((k6.block _ (lt_of_heap E.out.2.1) (fun f => f)).trans E.out.2.1)
      have F := Lib.hid (And.intro fin (And.intro fin2 (And.intro T.1 (And.intro T.2.1 ((E.out.2.2.2.2.2.then k6 (fun _ _ f => f.elim)).then T.2.2 (fun i hi e => by rcases e with e | e <;> omega))))))
      have q4 := blk1 g4
      have q5 := blk1 g5
      clear g4 g5 T fin fin2 k6
      gi_wp2
      have F9 := F.out
      obtain ⟨W9, hW9⟩ : ∃ W9, (W6.setCell ⟨w.heap.size, 0, none⟩ (.string s)).setCell ⟨w.heap.size + 1, 0, none⟩ (.bool true) = W9 := ⟨_, rfl⟩
      rw [hW9] at F9 ⊢
      have k9 : Keeps (fun k => k = W2.heap.size + 1) W9 (W9.putObj (W2.heap.size + 1) (.loop (d .done))) := (Keeps.refl (fun k => k = W2.heap.size + 1) W9).putObj (fun _ => rfl) _
      have h9 := lt_of_heap F9.1
      have R := And.intro (World.putObj_heap_same (w := W9) (o := .loop (d .done)) h9) (And.intro ((k9.block _ (lt_of_heap F9.2.2.1) (by have := B.out.2.2.2.2.2.2.2.2.2; omega)).trans F9.2.2.1) (And.intro ((k9.block _ (lt_of_heap F9.2.2.2.1) (by have := B.out.2.2.2.2.2.2.2.2.2; omega)).trans F9.2.2.2.1) (And.intro ((k9.block _ (lt_of_heap F9.2.1) (by omega)).trans F9.2.1) (F9.2.2.2.2.then k9 (fun i hi e => by have := B.out.2.2.2.2.2.2.2.2.2; omega)))))
      have F1 := F9.1
      simp only [HR.out.1] at F1
      have hd := HR.out.2
      have hde := congrFun hd LoopState.done
      rw [← hde]
      exact ⟨F1, R.1, ⟨s, R.2.1⟩, R.2.2⟩
  · rintro e W' ⟨hv, hc⟩
    refine ⟨hv, ?_⟩
    clear hv
    have HR := Lib.hid (And.intro hr hd)
    clear hr hd
    rcases hc with ⟨kW, hall⟩ | ⟨⟨j1, ⟨nm, j2⟩, j3, j4, j5⟩, hex⟩
    · have e1 := (kW.block _ (lt_of_heap B.out.2.1) B.out.2.2.2.2.1).trans B.out.2.1
      have e2 := (kW.block _ (lt_of_heap B.out.2.2.1) B.out.2.2.2.2.2.1).trans B.out.2.2.1
      have e4 := (kW.block _ (lt_of_heap B.out.2.2.2.2.2.2.1) (fun e => by have := B.out.2.2.2.1 _ e; have := B.out.2.2.2.2.2.2.2.2.2.1; omega)).trans B.out.2.2.2.2.2.2.1
      have e5 := (kW.block _ (lt_of_heap B.out.2.2.2.2.2.2.2.1) (fun e => by have := B.out.2.2.2.1 _ e; have := B.out.2.2.2.2.2.2.2.2.2.1; omega)).trans B.out.2.2.2.2.2.2.2.1
      have ow := B.out.2.2.2.2.2.2.2.2.1.then kW (fun i hi e => by have := B.out.2.2.2.1 _ e; have := B.out.2.2.2.2.2.2.2.2.2.1; omega)
      refine .inl ⟨e1, ?_⟩
      refine put_namedD (fun W3 hW3 => ?_)
      have k3 : Keeps (fun k => k = W2.heap.size + 1) W' W3 := by rw [hW3]; exact (Keeps.refl (fun k => k = W2.heap.size + 1) W').putObj (fun _ => rfl) _
      have g2 := (k3.block _ (lt_of_heap e2) (by omega)).trans e2
      have g4 := (k3.block _ (lt_of_heap e4) (by have := B.out.2.2.2.2.2.2.2.2.2; omega)).trans e4
      have g5 := (k3.block _ (lt_of_heap e5) (by have := B.out.2.2.2.2.2.2.2.2.2; omega)).trans e5
      have T := two_setD g4 g5 (by omega) (.string ⟨#[]⟩) (.bool false)
      have E := Lib.hid (And.intro ((T.2.2.block _ (lt_of_heap g2) (by have := B.out.2.2.2.2.2.2.2.2.2; omega)).trans g2) (And.intro T.1 (And.intro T.2.1 (And.intro ((ow.then k3 (fun i hi e => by have := B.out.2.2.2.2.2.2.2.2.2; omega)).then T.2.2 (fun i hi e => by rcases e with e | e <;> omega)) (apart_no B.out.1.all hall)))))
      have q4 := blk1 g4
      have q5 := blk1 g5
      clear kW hall e1 e2 e4 e5 ow hW3 k3 g2 g4 g5 T
      go_wp2_with fail
      have E9 := E.out
      obtain ⟨W9, hW9⟩ : ∃ W9, (W3.setCell ⟨w.heap.size, 0, none⟩ (.string ⟨#[]⟩)).setCell ⟨w.heap.size + 1, 0, none⟩ (.bool false) = W9 := ⟨_, rfl⟩
      rw [hW9] at E9 ⊢
      have kd : Keeps (fun k => k = W2.heap.size) W9 (W9.putObj W2.heap.size (.deferred none)) := (Keeps.refl (fun k => k = W2.heap.size) W9).putObj (fun _ => rfl) _
      have r4 := blk1 ((kd.block _ (lt_of_heap E9.2.1) (by have := B.out.2.2.2.2.2.2.2.2.2; omega)).trans E9.2.1)
      have r5 := blk1 ((kd.block _ (lt_of_heap E9.2.2.1) (by have := B.out.2.2.2.2.2.2.2.2.2; omega)).trans E9.2.2.1)
      exact post_mark (v := .tuple #[.string ⟨#[]⟩, .bool false]) rfl E9.1 (by simp [results, Tryz.results44, go_sem, r4, r5]) ⟨_, .inl ⟨rfl, fun _ _ => E9.2.2.2.2, E9.2.2.2.1.then kd (fun i hi e => by have := B.out.2.2.2.2.2.2.2.2.2; omega)⟩⟩
    · refine .inr ⟨j1, ?_⟩
      refine put_namedD (fun W3 hW3 => ?_)
      have k3 : Keeps (fun k => k = W2.heap.size + 1) W' W3 := by rw [hW3]; exact (Keeps.refl (fun k => k = W2.heap.size + 1) W').putObj (fun _ => rfl) _
      have g2 := (k3.block _ (lt_of_heap j4) (by omega)).trans j4
      have g4 := (k3.block _ (lt_of_heap j2) (by have := B.out.2.2.2.2.2.2.2.2.2; omega)).trans j2
      have g5 := (k3.block _ (lt_of_heap j3) (by have := B.out.2.2.2.2.2.2.2.2.2; omega)).trans j3
      have kd : Keeps (fun k => k = W2.heap.size) W3 (W3.putObj W2.heap.size (.deferred none)) := (Keeps.refl (fun k => k = W2.heap.size) W3).putObj (fun _ => rfl) _
      have r4 := blk1 ((kd.block _ (lt_of_heap g4) (by have := B.out.2.2.2.2.2.2.2.2.2; omega)).trans g4)
      have r5 := blk1 ((kd.block _ (lt_of_heap g5) (by have := B.out.2.2.2.2.2.2.2.2.2; omega)).trans g5)
      exact post_mark (v := .tuple #[.string nm, .bool true]) rfl g2 (by simp [results, Tryz.results44, go_sem, r4, r5]) ⟨_, _, rfl, fun _ => (apart_yes B.out.1.all hex).symm, (j5.then k3 (fun i hi e => by have := B.out.2.2.2.2.2.2.2.2.2; omega)).then kd (fun i hi e => by have := B.out.2.2.2.2.2.2.2.2.2; omega)⟩
theorem Overlaps_any (v1 v2 : Value) (lp lq : List Con) (w : World) (h1 : Cons w v1 lp) (h2 : Cons w v2 lq) :
    Calls Tryz.prog 14 #[v1, v2] w fun e w' => e = .returned (.bool ((predOk lp && predOk lq) && !apartR (lp.map Con.plain) (lq.map Con.plain))) ∧ Old w w' := by
  have AP := Lib.hid (Apart_any v1 v2 lp lq w h1 h2)
  have MM := Lib.hid (fun W (hW : Old w W) => omay_any v1 v2 lp lq W (h1.old hW) (h2.old hW))
  obtain ⟨p1, c1, rfl, _, _⟩ := h1.1.len
  obtain ⟨p2, c2, rfl, _, _⟩ := h2.1.len
  clear h1 h2
  obtain ⟨z1, hz1⟩ : ∃ z, (predOk lp && predOk lq) = z := ⟨_, rfl⟩
  obtain ⟨z2, hz2⟩ : ∃ z, apartR (lp.map Con.plain) (lq.map Con.plain) = z := ⟨_, rfl⟩
  rw [hz1] at AP MM ⊢
  rw [hz2] at AP ⊢
  clear hz1 hz2
  go_enter Tryz.func14, Tryz.ntmps14
  go_wp2_with fail
  refine AP.out.mono ?_
  rintro e w1 ⟨nm, z, rfl, hz, k1⟩
  have K := Lib.hid (And.intro hz k1)
  clear hz k1
  cases z1
  · go_wp2_with fail
    refine (MM.out w1 K.out.2).mono ?_
    rintro e w2 ⟨rfl, k2⟩
    have K2 := Lib.hid (K.out.2.trans k2)
    clear k2
    go_wp2_with fail
    go_ret
    exact ⟨rfl, K2.out⟩
  · have := K.out.1 rfl
    subst this
    go_wp2_with fail
    refine (MM.out w1 K.out.2).mono ?_
    rintro e w2 ⟨rfl, k2⟩
    have K2 := Lib.hid (K.out.2.trans k2)
    clear k2
    go_wp2_with fail
    go_ret
    exact ⟨rfl, K2.out⟩
end
end Go.Proofs.YtehmlaplodjenaaGreat
