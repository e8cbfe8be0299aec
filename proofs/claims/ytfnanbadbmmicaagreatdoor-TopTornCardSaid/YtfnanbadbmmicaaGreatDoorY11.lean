/- DERIVED. codec.TakeItem. · DERIVED. codec.TakePred. · DERIVED. codec.TakePage. · DERIVED. codec.TakeItem, TakePred, TakePage. · DERIVED. What is taken of bytes, put again, is these bytes; with anything behind it is nothing, nor is any beginning. · DERIVED. The document's order of values: when it says 0. · DERIVED. The document's order of constraints and predicates, and their sameness. · DERIVED. The document's sameness of predicates, items and pages. · DERIVED. The document's sameness of pages. -/
import Derived.Test.YtfnanbadbmmicaaGreatDoorY10
import Derived.Test.YtfnanbadbmmicaaGreatDoorY08
import Derived.Test.YtfnanbadbmmicaaGreatDoorY05
import Derived.Test.YtfnanbadbmmicaaGreatDoorY04
import Derived.Test.YtfnanbadbmmicaaGreatDoorY09
namespace Go.Proofs.YtfnanbadbmmicaaGreatDoor
open Go.RowKit

/-- bytes as an item -/
def takeI (l : List UInt8) : Option (PIt) := (pItem l).bind fun x => if itOk x.1 && decide (x.2 = []) then some x.1 else none
/-- what is told of bytes as an item -/
def TkI (w : World) (res : Option (PIt)) (e : Ending) (w' : World) : Prop :=
 Old w w' ∧ match res with
 | some x => ∃ p n c, e = .returned (.tuple #[.agg #[.int .u64 x.n, .int .u64 x.time, .string x.key, .slice p n c], .int .i64 0]) ∧ OwnsA w' w.heap.size (.slice p n c) x.es
 | none => e = .returned (.tuple #[.agg #[.int .u64 0, .int .u64 0, .string ⟨#[]⟩, .slice none 0 0], .int .i64 5])
theorem TkI.no {w w' : World} {res : Option (PIt)} (h : res = none) (k : Old w w') : TkI w res (.returned (.tuple #[.agg #[.int .u64 0, .int .u64 0, .string ⟨#[]⟩, .slice none 0 0], .int .i64 5])) w' := by subst h; exact ⟨k, rfl⟩
theorem TkI.yes {w w' : World} {res : Option (PIt)} {num tm : Nat} {key : ByteArray} {es : List At} {p : Option Addr} {n c : Nat} (h : res = some (⟨num, tm, key, es⟩ : PIt)) (k : Old w w') (ho : OwnsA w' w.heap.size (.slice p n c) es) : TkI w res (.returned (.tuple #[.agg #[.int .u64 num, .int .u64 tm, .string key, .slice p n c], .int .i64 0])) w' := by subst h; exact ⟨k, p, n, c, rfl, ho⟩

set_option maxRecDepth 100000 in
theorem tk_it_panic (xb eb : Nat) (x0 x1 x2 x3 : Value) (n : Int) (w : World) (hx : w.heap[xb]? = some (.cells #[x0, x1, x2, x3] 39 (0, 0))) (he : w.heap[eb]? = some (.cells #[.int .i64 n] 27 (0, 0))) (hne : xb ≠ eb) :
  CallsD Tryz.prog 70 #[.pointer (some ⟨xb, 0, none⟩), .pointer (some ⟨eb, 0, none⟩)] (.panicking fault) w fun e u' w' =>
   e = .returned (.tuple #[]) ∧ u' = .panicking [{ v := .iface 120 (.agg #[]), recovered := true }] ∧ w'.heap[xb]? = some (.cells #[.int .u64 0, .int .u64 0, .string ⟨#[]⟩, .slice none 0 0] 39 (0, 0)) ∧ w'.heap[eb]? = some (.cells #[.int .i64 5] 27 (0, 0)) ∧ Keeps (fun k => k = xb ∨ k = eb) w w' := by
 have hta : ∀ w, (Instr.typeAssert (.iface 120 (.agg #[])) 20 120 true).run Tryz.prog w = .ok (.tuple #[.agg #[], .bool true]) w := fun _ => by kernel_rfl
 have g1 := blk4 hx
 have g2 := blk1 he
 have l1 := lt_of_heap hx
 have l2 := lt_of_heap he
 have n1 : xb ≠ w.heap.size := by omega
 have n2 : eb ≠ w.heap.size := by omega
 have hne' : eb ≠ xb := Ne.symm hne
 have HX := Lib.hid (And.intro hx he)
 clear hx he
 refine callsD_of_wpS Tryz.func70 rfl fun c₀ cs hu => ?_
 apply wpS_seq
 apply wpS_region
 simp [wpOpsS, go_sem, recoverD, hu, Tryz.ntmps70, Exit.thenS]
 refine wpS_of_wp ?_
 go_wp2_with fail
 have q1 := set4 (a0 := .int .u64 0) (a1 := .int .u64 0) (a2 := .string ⟨#[]⟩) (a3 := .slice none 0 0) HX.out.1
 have q2 := (heap_setCell_other ((((w.setCell ⟨xb, 0, none⟩ (.int .u64 0)).setCell ⟨xb, 1, none⟩ (.int .u64 0)).setCell ⟨xb, 2, none⟩ (.string ⟨#[]⟩)).setCell ⟨xb, 3, none⟩ (.slice none 0 0)) ⟨eb, 0, none⟩ xb (.int .i64 5) hne).trans q1
 have k1 := keep4 (a0 := .int .u64 0) (a1 := .int .u64 0) (a2 := .string ⟨#[]⟩) (a3 := .slice none 0 0) w xb
 have q3 := heap_setCell_same ((((w.setCell ⟨xb, 0, none⟩ (.int .u64 0)).setCell ⟨xb, 1, none⟩ (.int .u64 0)).setCell ⟨xb, 2, none⟩ (.string ⟨#[]⟩)).setCell ⟨xb, 3, none⟩ (.slice none 0 0)) eb 0 _ _ (.int .i64 5) ((k1.block eb l2 hne').trans HX.out.2)
 have k2 : Keeps (fun k => k = xb ∨ k = eb) w ((((w.setCell ⟨xb, 0, none⟩ (.int .u64 0)).setCell ⟨xb, 1, none⟩ (.int .u64 0)).setCell ⟨xb, 2, none⟩ (.string ⟨#[]⟩)).setCell ⟨xb, 3, none⟩ (.slice none 0 0)) := k1.weaken (fun i _ e => Or.inl e)
 have k3 := k2.setCell (p := ⟨eb, 0, none⟩) (fun _ => Or.inr rfl) (.int .i64 5)
 refine ⟨rfl, _, rfl, .tuple #[], by simp [results, Tryz.results70, go_sem], rfl, rfl, ?_, ?_, ?_⟩
 ·rw [heap_alloc_old _ _ (by simpa using l1)]; exact q2
 ·rw [heap_alloc_old _ _ (by simpa using l2)]; simpa using q3
 ·exact k3.alloc _
set_option maxRecDepth 100000 in
theorem tk_it_idle (xb eb : Nat) (w : World) :
  CallsD Tryz.prog 70 #[.pointer (some ⟨xb, 0, none⟩), .pointer (some ⟨eb, 0, none⟩)] .returning w fun e u' w' => e = .returned (.tuple #[]) ∧ u' = .returning ∧ w' = w := by
 refine callsD_of_wpS Tryz.func70 rfl fun c₀ cs hu => ?_
 apply wpS_seq
 apply wpS_region
 simp [wpOpsS, go_sem, recoverD, hu, Tryz.ntmps70, Exit.thenS]
 refine wpS_of_wp ?_
 go_wp2_with fail
 cases c₀
 simp_all [bodyPostS, results, Tryz.results70, go_sem]

theorem it_results (tmps : Array Value) (xb eb : Nat) (y0 y1 y2 y3 : Value) (n : Int) (w : World) (h6 : tmps.getD 6 undef = .pointer (some ⟨xb, 0, none⟩)) (h7 : tmps.getD 7 undef = .pointer (some ⟨eb, 0, none⟩)) (c0 : w.cell? ⟨xb, 0, none⟩ = some y0) (c1 : w.cell? ⟨xb, 1, none⟩ = some y1) (c2 : w.cell? ⟨xb, 2, none⟩ = some y2) (c3 : w.cell? ⟨xb, 3, none⟩ = some y3) (hn : w.cell? ⟨eb, 0, none⟩ = some (.int .i64 n)) :
  (results Tryz.f47 tmps).run Tryz.prog w = .ok (.tuple #[.agg #[y0, y1, y2, y3], .int .i64 n]) w := by
 simp only [Array.getD_eq_getD_getElem?] at h6 h7
 simp [results, Tryz.results47, go_sem, h6, h7, c0, c1, c2, c3, hn]
theorem it_door_bad {w wd : World} {Q : Ending → World → Prop} (hx : ∃ y0 y1 y2 y3, wd.heap[w.heap.size]? = some (.cells #[y0, y1, y2, y3] 39 (0, 0))) (he : ∃ n : Int, wd.heap[w.heap.size + 1]? = some (.cells #[.int .i64 n] 27 (0, 0))) (hk : Old w wd) (tmps : Array Value) (h6 : tmps.getD 6 undef = .pointer (some ⟨w.heap.size, 0, none⟩)) (h7 : tmps.getD 7 undef = .pointer (some ⟨w.heap.size + 1, 0, none⟩))
  (hQ : ∀ w', Old w w' → Q (.returned (.tuple #[.agg #[.int .u64 0, .int .u64 0, .string ⟨#[]⟩, .slice none 0 0], .int .i64 5])) w') :
  Leaves Tryz.prog Tryz.f47 tmps Q [{ target := .fn (.func 70) #[.pointer (some ⟨w.heap.size, 0, none⟩), .pointer (some ⟨w.heap.size + 1, 0, none⟩)], args := #[] }] (.panicking fault) wd := by
 obtain ⟨y0, y1, y2, y3, hx⟩ := hx
 obtain ⟨n, he⟩ := he
 refine leaves_cons (f := 70) (args := #[.pointer (some ⟨w.heap.size, 0, none⟩), .pointer (some ⟨w.heap.size + 1, 0, none⟩)]) (by simp) (by simp [go_sem]) ?_
 refine (tk_it_panic _ _ _ _ _ _ n wd hx he (by omega)).mono ?_
 rintro e u' w'' ⟨rfl, rfl, q1, q2, k2⟩
 have hr := it_results tmps _ _ _ _ _ _ _ w'' h6 h7 (blk4 q1).1.1 (blk4 q1).1.2.1 (blk4 q1).1.2.2.1 (blk4 q1).1.2.2.2 (blk1 q2).1
 have hq := hQ w'' (hk.then k2 (fun i hi e => by omega))
 simp [Leaves, settle]
 exact ⟨_, hr, hq⟩
theorem it_door_ok {w wd : World} {Q : Ending → World → Prop} (y0 y1 y2 y3 : Value) (hx : wd.heap[w.heap.size]? = some (.cells #[y0, y1, y2, y3] 39 (0, 0))) (he : wd.heap[w.heap.size + 1]? = some (.cells #[.int .i64 0] 27 (0, 0))) (tmps : Array Value) (h6 : tmps.getD 6 undef = .pointer (some ⟨w.heap.size, 0, none⟩)) (h7 : tmps.getD 7 undef = .pointer (some ⟨w.heap.size + 1, 0, none⟩))
  (hQ : Q (.returned (.tuple #[.agg #[y0, y1, y2, y3], .int .i64 0])) wd) :
  Leaves Tryz.prog Tryz.f47 tmps Q [{ target := .fn (.func 70) #[.pointer (some ⟨w.heap.size, 0, none⟩), .pointer (some ⟨w.heap.size + 1, 0, none⟩)], args := #[] }] .returning wd := by
 refine leaves_cons (f := 70) (args := #[.pointer (some ⟨w.heap.size, 0, none⟩), .pointer (some ⟨w.heap.size + 1, 0, none⟩)]) (by simp) (by simp [go_sem]) ?_
 refine (tk_it_idle _ _ wd).mono ?_
 rintro e u' w'' ⟨rfl, rfl, rfl⟩
 have hr := it_results tmps _ _ y0 y1 y2 y3 _ w'' h6 h7 (blk4 hx).1.1 (blk4 hx).1.2.1 (blk4 hx).1.2.2.1 (blk4 hx).1.2.2.2 (blk1 he).1
 exact ⟨_, hr, hQ⟩

set_option maxRecDepth 100000 in
set_option maxHeartbeats 4000000 in
theorem taken_it_any (v : Value) (l : List UInt8) (w : World) (h : Sees w v l) (hl : l.length ≤ 1000000000) :
  Calls Tryz.prog 47 #[v, .func (.func 48) #[] #[], .func (.func 7) #[] #[]] w (TkI w (takeI l)) := by
 have hmf : ∀ (fn : Fn) (first cap : Array Value) (w : World), (Instr.makeFunc fn first cap).run Tryz.prog w = .ok (.func fn first cap) w := fun _ _ _ _ => rfl
 obtain ⟨pv, cv, rfl, _, _⟩ := h.len
 obtain ⟨W0, hW0⟩ : ∃ W0, (w.alloc (.cells #[.int .u64 0, .int .u64 0, .string ⟨#[]⟩, .slice none 0 0] 39)).alloc (.cells #[.int .i64 0] 27) = W0 := ⟨_, rfl⟩
 have k0 : Old w W0 := by rw [← hW0]; exact ((Keeps.refl _ _).alloc _).alloc _
 have hb := two_blocks w (.cells #[.int .u64 0, .int .u64 0, .string ⟨#[]⟩, .slice none 0 0] 39) (.cells #[.int .i64 0] 27)
 rw [hW0] at hb
 have hs0 := h.old k0
 have HNew := Lib.hid (new_any _ l W0 hs0 hl)
 have HB := Lib.hid hb
 have HK := Lib.hid k0
 have HS := Lib.hid h
 have hsz : w.heap.size + 1 < W0.heap.size := lt_of_heap hb.2
 have hent1 : ∀ (args : Array Value) (w : World), (callFunc 48 args).run Tryz.prog w = .ok (.enter 48 args) w := fun args W => by simp [go_sem, callFunc, Tryz.func48]; rfl
 have hent2 : ∀ (args : Array Value) (w : World), (callFunc 7 args).run Tryz.prog w = .ok (.enter 7 args) w := fun args W => by simp [go_sem, callFunc, Tryz.func7]; rfl
 clear hb hs0 k0 h
 go_enter_defers Tryz.func47, Tryz.ntmps47
 go_wp2_with fail
 refine HNew.out.mono ?_
 rintro e w1 ⟨rb, bb, rfl, hR1, hrb, hbb, k1⟩
 have HE := Lib.hid (citem_any w1.heap.size rb bb l w1 hR1)
 have K1 := Lib.hid k1
 clear hR1 k1 HNew
 go_wp2_with fail
 refine HE.out.mono ?_
 intro e w2 ht
 clear HE
 cases hp : pItem l with
 | none =>
  rw [hp] at ht
  obtain ⟨rfl, hbad⟩ : e = .panicked fault ∧ Bad w1 w1.heap.size rb bb w2 := ht
  have hk2 : Old W0 w2 := K1.out.then hbad.2 (fun i hi e => by omega)
  have R := Lib.hid (And.intro ((hk2.block _ (lt_of_heap HB.out.1) (fun f => f)).trans HB.out.1) (And.intro ((hk2.block _ (lt_of_heap HB.out.2) (fun f => f)).trans HB.out.2) (HK.out.trans hk2)))
  have er : takeI l = none := by unfold takeI; rw [hp]; rfl
  have HER := Lib.hid er
  clear hbad hk2 er hp
  go_wp2_with fail
  exact it_door_bad ⟨_, _, _, _, R.out.1⟩ ⟨_, R.out.2.1⟩ R.out.2.2 _ rfl rfl (fun w' h => TkI.no HER.out h)
 | some x =>
  obtain ⟨⟨num, tm, key, es⟩, r⟩ := x
  rw [hp] at ht
  obtain ⟨⟨p', n', c', rfl, ho⟩, hR2, k2⟩ : (∃ p n c, e = .returned (.agg #[.int .u64 num, .int .u64 tm, .string key, .slice p n c]) ∧ OwnsA w2 w1.heap.size (.slice p n c) es) ∧ Rd w2 w1.heap.size rb bb r ∧ RK rb w1 w2 := ht
  obtain ⟨hfit, hb1, hb2, hinv⟩ := pItem_inv hp
  simp only at hfit hb1 hb2
  have er : takeI l = if itOk (⟨num, tm, key, es⟩ : PIt) && decide (r = []) then some (⟨num, tm, key, es⟩ : PIt) else none := by unfold takeI; rw [hp]; rfl
  have hk2 : Old W0 w2 := K1.out.then k2 (fun i hi e => by omega)
  have b0 := (hk2.block _ (lt_of_heap HB.out.1) (fun f => f)).trans HB.out.1
  have b1 := (hk2.block _ (lt_of_heap HB.out.2) (fun f => f)).trans HB.out.2
  have g0 := blk4 b0
  have hl0 := lt_of_heap b0
  have hl1 := lt_of_heap b1
  obtain ⟨W2, hW2⟩ : ∃ W2, ((((w2.setCell ⟨w.heap.size, 0, none⟩ (.int .u64 num)).setCell ⟨w.heap.size, 1, none⟩ (.int .u64 tm)).setCell ⟨w.heap.size, 2, none⟩ (.string key)).setCell ⟨w.heap.size, 3, none⟩ (.slice p' n' c')) = W2 := ⟨_, rfl⟩
  have c0 := set4 (a0 := .int .u64 num) (a1 := .int .u64 tm) (a2 := .string key) (a3 := .slice p' n' c') b0
  have kc := keep4 (a0 := .int .u64 num) (a1 := .int .u64 tm) (a2 := .string key) (a3 := .slice p' n' c') w2 w.heap.size
  rw [hW2] at c0 kc
  have c1 := (kc.block _ hl1 (by omega)).trans b1
  have ho2 := ho.keeps kc (fun b hb e => by have := (ho.block b hb).1; have := K1.out.size; omega)
  have ha := ho2.sees (fun _ => rfl) (by decide)
  have hbl : 0 < es.length → ∀ k, (Value.slice p' n' c').ownBlock = some k → k < W2.heap.size := fun _ k hk => (ho2.block k hk).2
  have hkw : Old w W2 := (HK.out.trans hk2).then kc (fun i hi e => by omega)
  have hfi : (⟨num, tm, key, .slice p' n' c', es⟩ : It).fine W2 := ⟨ha, fun _ k hk => (ho2.block k hk).2, hfit, by simp only; omega, by simp only; omega⟩
  have HW2 := Lib.hid hW2
  have HC := Lib.hid (And.intro c0 (And.intro c1 (And.intro hkw ho2)))
  have hw1 := K1.out.size
  cases hok : itOk (⟨num, tm, key, es⟩ : PIt) with
  | false =>
   have HP0 : Calls Tryz.prog 7 #[.agg #[.int .u64 num, .int .u64 tm, .string key, .slice p' n' c']] W2 (fun e w' => e = .returned (.tuple #[.slice none 0 0, .int .i64 30]) ∧ Old W2 w') := (put_item_no_any (⟨num, tm, key, .slice p' n' c', es⟩ : It) W2 hfi hok)
   have HP := Lib.hid HP0
   clear HP0
   rw [hok] at er
   have HER := Lib.hid (show takeI l = none from er)
   clear hfi hb1 hb2
   clear ho hR2 k2 hk2 b0 b1 c0 kc c1 ho2 ha hbl hkw hW2 hinv hfit er hp hok
   go_wp2_with fail
   rw [HW2.out]
   refine HP.out.mono ?_
   rintro e w3 ⟨rfl, k3⟩
   have R := Lib.hid (And.intro ((k3.block _ (lt_of_heap HC.out.1) (fun f => f)).trans HC.out.1) (And.intro ((k3.block _ (lt_of_heap HC.out.2.1) (fun f => f)).trans HC.out.2.1) (HC.out.2.2.1.trans k3)))
   clear k3
   go_wp2_with fail
   exact it_door_bad ⟨_, _, _, _, R.out.1⟩ ⟨_, R.out.2.1⟩ R.out.2.2 _ rfl rfl (fun w' h => TkI.no HER.out h)
  | true =>
   have HP0 : Calls Tryz.prog 7 #[.agg #[.int .u64 num, .int .u64 tm, .string key, .slice p' n' c']] W2 (Formed W2 (itForm (⟨num, tm, key, es⟩ : PIt))) := (put_item_any (⟨num, tm, key, .slice p' n' c', es⟩ : It) W2 hfi hok)
   have HP := Lib.hid HP0
   clear HP0
   have hform := hinv hok
   have HF := Lib.hid hform
   rw [hok] at er
   have HER := Lib.hid (show takeI l = if decide (r = []) then some (⟨num, tm, key, es⟩ : PIt) else none from by simpa using er)
   skip
   clear hfi hb1 hb2
   clear ho hR2 k2 hk2 b0 b1 c0 kc c1 ho2 ha hbl hkw hW2 hinv hfit er hp hok hform
   go_wp2_with fail
   rw [HW2.out]
   refine HP.out.mono ?_
   rintro e w3 ⟨p3, n3, c3, rfl, ho3, k3⟩
   have d0 := (k3.block _ (lt_of_heap HC.out.1) (fun f => f)).trans HC.out.1
   have d1 := (k3.block _ (lt_of_heap HC.out.2.1) (fun f => f)).trans HC.out.2.1
   have g3 := blk4 d0
   have g4 := blk1 d1
   have R := Lib.hid (And.intro d0 (And.intro d1 (And.intro (HC.out.2.2.1.trans k3) (HC.out.2.2.2.old k3))))
   have EQ := Lib.hid (equal_any _ _ _ _ w3 ho3.sees (HS.out.old (HC.out.2.2.1.trans k3)))
   clear k3 ho3 d0 d1
   by_cases hr : r = []
   ·have hb : (itForm (⟨num, tm, key, es⟩ : PIt) == l) = true := by rw [HF.out, hr]; simp
    rw [hb] at EQ
    have HR := Lib.hid hr
    clear hb hr HF
    go_wp2_with fail
    refine EQ.out.mono ?_
    rintro e w4 ⟨rfl, rfl⟩
    go_wp2_with fail
    have q1 := set4 (a0 := .int .u64 num) (a1 := .int .u64 tm) (a2 := .string key) (a3 := .slice p' n' c') R.out.1
    have k4 := keep4 (a0 := .int .u64 num) (a1 := .int .u64 tm) (a2 := .string key) (a3 := .slice p' n' c') w3 w.heap.size
    have q2 := (heap_setCell_other ((((w3.setCell ⟨w.heap.size, 0, none⟩ (.int .u64 num)).setCell ⟨w.heap.size, 1, none⟩ (.int .u64 tm)).setCell ⟨w.heap.size, 2, none⟩ (.string key)).setCell ⟨w.heap.size, 3, none⟩ (.slice p' n' c')) ⟨w.heap.size + 1, 0, none⟩ w.heap.size (.int .i64 0) (by simp)).trans q1
    have q3 := heap_setCell_same ((((w3.setCell ⟨w.heap.size, 0, none⟩ (.int .u64 num)).setCell ⟨w.heap.size, 1, none⟩ (.int .u64 tm)).setCell ⟨w.heap.size, 2, none⟩ (.string key)).setCell ⟨w.heap.size, 3, none⟩ (.slice p' n' c')) (w.heap.size + 1) 0 _ _ (.int .i64 0) ((k4.block _ (lt_of_heap R.out.2.1) (by omega)).trans R.out.2.1)
    have k5 : Keeps (fun k => k = w.heap.size ∨ k = w.heap.size + 1) w3 ((((w3.setCell ⟨w.heap.size, 0, none⟩ (.int .u64 num)).setCell ⟨w.heap.size, 1, none⟩ (.int .u64 tm)).setCell ⟨w.heap.size, 2, none⟩ (.string key)).setCell ⟨w.heap.size, 3, none⟩ (.slice p' n' c')) := k4.weaken (fun i _ e => Or.inl e)
    have k6 := k5.setCell (p := ⟨w.heap.size + 1, 0, none⟩) (fun _ => Or.inr rfl) (.int .i64 0)
    have ho9 := R.out.2.2.2.keeps k6 (fun b hb e => by have := (R.out.2.2.2.block b hb).1; omega)
    exact it_door_ok _ _ _ _ q2 (by simpa using q3) _ rfl rfl (TkI.yes (by rw [HER.out, if_pos (by simpa using HR.out)]) (R.out.2.2.1.then k6 (fun i hi e => by omega)) (ho9.mono (by omega)))
   ·have hb : (itForm (⟨num, tm, key, es⟩ : PIt) == l) = false := by
     rw [HF.out]
     refine beq_eq_false_iff_ne.2 (fun e => hr ?_)
     simpa using e
    rw [hb] at EQ
    have HR := Lib.hid hr
    clear hb hr HF
    go_wp2_with fail
    refine EQ.out.mono ?_
    rintro e w4 ⟨rfl, rfl⟩
    go_wp2_with fail
    exact it_door_bad ⟨_, _, _, _, R.out.1⟩ ⟨_, R.out.2.1⟩ R.out.2.2.1 _ rfl rfl (fun w' h => TkI.no (by rw [HER.out, if_neg (by simpa using HR.out)]) h)
end Go.Proofs.YtfnanbadbmmicaaGreatDoor

namespace Go.Proofs.YtfnanbadbmmicaaGreatDoor
open Go.RowKit

/-- bytes as a predicate -/
def takeP (l : List UInt8) : Option (List PCon) := (pPred l).bind fun x => if okP x.1 && decide (x.2 = []) then some x.1 else none
end Go.Proofs.YtfnanbadbmmicaaGreatDoor

namespace Go.Proofs.YtfnanbadbmmicaaGreatDoor
open Go.RowKit
/-- bytes as a page -/
def takeG (l : List UInt8) : Option (PPg) := (pPage l).bind fun x => if pgOk x.1 && decide (x.2 = []) then some x.1 else none
end Go.Proofs.YtfnanbadbmmicaaGreatDoor

namespace Go.Proofs.YtfnanbadbmmicaaGreatDoor
open Go.RowKit

set_option maxRecDepth 100000 in
theorem take_item_any (v : Value) (l : List UInt8) (w : World) (h : Sees w v l) (hl : l.length ≤ 1000000000) :
  Calls Tryz.prog 34 #[v] w (TkI w (takeI l)) := by
 obtain ⟨W1, hW1⟩ : ∃ W1, w.alloc (.cells #[.int .u64 0, .int .u64 0, .string ⟨#[]⟩, .slice none 0 0] 39) = W1 := ⟨_, rfl⟩
 have k1 : Old w W1 := by rw [← hW1]; exact (Keeps.refl _ _).alloc _
 have b1 : W1.heap[w.heap.size]? = some (.cells #[.int .u64 0, .int .u64 0, .string ⟨#[]⟩, .slice none 0 0] 39 (0, 0)) := by rw [← hW1]; exact heap_alloc_new _ _
 have HT := Lib.hid (taken_it_any v l W1 (h.old k1) hl)
 have H := Lib.hid (And.intro k1 b1)
 have hsz := lt_of_heap b1
 obtain ⟨res, hres⟩ : ∃ r, takeI l = r := ⟨_, rfl⟩
 rw [hres] at HT ⊢
 obtain ⟨pv, cv, rfl, _, _⟩ := h.len
 clear h hl k1 b1 hres
 go_enter Tryz.func34, Tryz.ntmps34
 go_wp2_with fail
 refine HT.out.mono ?_
 rintro e w2 ⟨k2, ht⟩
 have b2 := (k2.block _ hsz (fun f => f)).trans H.out.2
 have g2 := blk4 b2
 have kw := H.out.1.trans k2
 rcases res with _ | ⟨num, tm, key, es⟩
 ·obtain rfl : e = .returned (.tuple #[.agg #[.int .u64 0, .int .u64 0, .string ⟨#[]⟩, .slice none 0 0], .int .i64 5]) := ht
  have K := Lib.hid kw
  clear kw k2 b2 HT
  go_wp2_with fail
  refine bodyPost_ret (v := .tuple #[.agg #[.int .u64 0, .int .u64 0, .string ⟨#[]⟩, .slice none 0 0], .int .i64 5]) (by simp [results, Tryz.results34, go_sem, g2]) rfl (TkI.no rfl (K.out.then (keep4 w2 w.heap.size) (fun i hi e => by omega)))
 ·obtain ⟨p, n, c, rfl, ho⟩ : ∃ p n c, e = .returned (.tuple #[.agg #[.int .u64 num, .int .u64 tm, .string key, .slice p n c], .int .i64 0]) ∧ OwnsA w2 W1.heap.size (.slice p n c) es := ht
  have K := Lib.hid (And.intro kw ho)
  clear kw k2 b2 HT ho
  go_wp2_with fail
  refine bodyPost_ret (v := .tuple #[.agg #[.int .u64 num, .int .u64 tm, .string key, .slice p n c], .int .i64 0]) (by simp [results, Tryz.results34, go_sem, g2]) rfl (TkI.yes rfl (K.out.1.then (keep4 w2 w.heap.size) (fun i hi e => by omega)) ((K.out.2.keeps (keep4 w2 w.heap.size) (fun b hb e => by have := (K.out.2.block b hb).1; omega)).mono (by omega)))

end Go.Proofs.YtfnanbadbmmicaaGreatDoor

namespace Go.Proofs.YtfnanbadbmmicaaGreatDoor
open Go.RowKit

theorem forms_law {X : Type} {p : List UInt8 → Option (X × List UInt8)} {take : List UInt8 → Option X} {F : X → List UInt8} {ok : X → Bool}
  (ht : ∀ l, take l = (p l).bind fun x => if ok x.1 && decide (x.2 = []) then some x.1 else none)
  (hi : ∀ l x r, p l = some (x, r) → ok x = true → l = F x ++ r ∧ ∀ t, p (F x ++ t) = some (x, t)) {l : List UInt8} {x : X} (h : take l = some x) :
  ok x = true ∧ l = F x ∧ (∃ r, p l = some (x, r)) ∧ (∀ c, take (l ++ [c]) = none) ∧ ∀ l' t, l = l' ++ t → t ≠ [] → take l' = none := by
 have main : ∀ {l : List UInt8} {x : X}, take l = some x → ok x = true ∧ l = F x ∧ (∃ r, p l = some (x, r)) ∧ ∀ t, p (F x ++ t) = some (x, t) := by
  intro l x h
  rw [ht] at h
  cases hp : p l with
  | none => rw [hp] at h; cases h
  | some y =>
   obtain ⟨y, r⟩ := y
   rw [hp] at h
   simp only [Option.bind_some] at h
   split at h
   ·rename_i hc
    simp only [Bool.and_eq_true, decide_eq_true_eq] at hc
    obtain rfl : y = x := by simpa using h
    obtain ⟨e, f⟩ := hi l y r hp hc.1
    exact ⟨hc.1, by rw [e, hc.2, List.append_nil], ⟨r, rfl⟩, f⟩
   ·cases h
 obtain ⟨h1, h2, h3, h4⟩ := main h
 refine ⟨h1, h2, h3, fun c => ?_, fun l' t e ht' => ?_⟩
 ·rw [ht, h2, h4]; simp
 ·cases hq : take l' with
  | none => rfl
  | some y =>
   obtain ⟨_, g2, _, g4⟩ := main hq
   have e1 := g4 t
   rw [← g2, ← e, h2] at e1
   have e2 := h4 []
   rw [List.append_nil, e1] at e2
   simp only [Option.some.injEq, Prod.mk.injEq] at e2
   exact absurd e2.2 ht'

theorem takeE_law {l : List UInt8} {x : ByteArray × List At} (h : takeE l = some x) :
  evOk x.1 x.2 = true ∧ l = evForm x.1 x.2 ∧ (∃ r, pEvent l = some (x, r)) ∧ (∀ c, takeE (l ++ [c]) = none) ∧ ∀ l' t, l = l' ++ t → t ≠ [] → takeE l' = none := forms_law (p := pEvent) (take := takeE) (F := fun x => evForm x.1 x.2) (ok := fun x => evOk x.1 x.2) (fun _ => rfl)
 (fun _l x _r hp hok => ⟨(pEvent_inv (key := x.1) (es := x.2) hp).2.2.2 hok, fun t => pEvent_fwd t hok (pEvent_inv (key := x.1) (es := x.2) hp).2.2.1⟩) h
theorem takeI_law {l : List UInt8} {x : PIt} (h : takeI l = some x) :
  itOk x = true ∧ l = itForm x ∧ (∃ r, pItem l = some (x, r)) ∧ (∀ c, takeI (l ++ [c]) = none) ∧ ∀ l' t, l = l' ++ t → t ≠ [] → takeI l' = none := forms_law (p := pItem) (take := takeI) (F := itForm) (ok := itOk) (fun _ => rfl)
 (fun _l _x _r hp hok => ⟨(pItem_inv hp).2.2.2 hok, fun t => pItem_fwd t hok (pItem_inv hp).1⟩) h
theorem takeP_law {l : List UInt8} {x : List PCon} (h : takeP l = some x) :
  okP x = true ∧ l = predForm x ∧ (∃ r, pPred l = some (x, r)) ∧ (∀ c, takeP (l ++ [c]) = none) ∧ ∀ l' t, l = l' ++ t → t ≠ [] → takeP l' = none := forms_law (p := pPred) (take := takeP) (F := predForm) (ok := okP) (fun _ => rfl)
 (fun _l _x _r hp hok => ⟨(pPred_inv hp).2 hok, fun t => pPred_fwd t hok (pPred_inv hp).1⟩) h
theorem takeG_law {l : List UInt8} {x : PPg} (h : takeG l = some x) :
  pgOk x = true ∧ l = pageForm x ∧ (∃ r, pPage l = some (x, r)) ∧ (∀ c, takeG (l ++ [c]) = none) ∧ ∀ l' t, l = l' ++ t → t ≠ [] → takeG l' = none := forms_law (p := pPage) (take := takeG) (F := pageForm) (ok := pgOk) (fun _ => rfl)
 (fun _l _x _r hp hok => ⟨(pPage_inv hp).2.2.2 hok, fun t => pPage_fwd t hok (fun y hy => ((pPage_inv hp).2.1 y hy).1) (pPage_inv hp).2.2.1⟩) h

theorem tkI_put {l : List UInt8} {x : PIt} (hx : takeI l = some x) {w w' : World} {e : Ending} (h : TkI w (some x) e w') :
  Old w w' ∧ ∃ p n c, e = .returned (.tuple #[.agg #[.int .u64 x.n, .int .u64 x.time, .string x.key, .slice p n c], .int .i64 0]) ∧ ∀ W, Old w' W → Calls Tryz.prog 7 #[.agg #[.int .u64 x.n, .int .u64 x.time, .string x.key, .slice p n c]] W (Formed W l) := by
 obtain ⟨k, p, n, c, rfl, ho⟩ := h
 obtain ⟨h1, h2, ⟨r, h3⟩, _⟩ := takeI_law hx
 refine ⟨k, p, n, c, rfl, fun W hW => ?_⟩
 rw [h2]
 obtain ⟨g1, g2, g3, _⟩ := pItem_inv h3
 exact put_item_any (⟨x.n, x.time, x.key, .slice p n c, x.es⟩ : It) W ⟨(ho.old hW).sees (fun _ => rfl) (by decide), fun _ b hb => ((ho.old hW).block b hb).2, g1, by simp only; omega, by simp only; omega⟩ h1
end Go.Proofs.YtfnanbadbmmicaaGreatDoor

namespace Go.Proofs.YtfnanbadbmmicaaGreatDoor
open Go.RowKit

theorem less_irrefl : ∀ l : List UInt8, Op.bytesLess l l = false := by
 intro l
 induction l with
 | nil => rfl
 | cons a l ih => simp [Op.bytesLess, ih]
theorem less_total : ∀ l m : List UInt8, Op.bytesLess l m = false → Op.bytesLess m l = false → l = m := by
 intro l
 induction l with
 | nil => intro m h1 h2; cases m with
  | nil => rfl
  | cons b m => simp [Op.bytesLess] at h1
 | cons a l ih => intro m h1 h2; cases m with
  | nil => simp [Op.bytesLess] at h2
  | cons b m =>
   simp only [Op.bytesLess] at h1 h2
   by_cases hab : a = b
   ·subst hab
    simp at h1 h2
    rw [ih m h1 h2]
   ·simp at h1 h2
    exact absurd (UInt8.le_antisymm h2.1 h1.1) hab
theorem arr_ext {s t : ByteArray} (h : s.toList = t.toList) : s = t := by
 rw [ByteArray.toList_eq, ByteArray.toList_eq] at h
 obtain ⟨⟨a⟩⟩ := s
 obtain ⟨⟨b⟩⟩ := t
 simp at h
 rw [h]
theorem bytes_eq {s t : ByteArray} : (s == t) = true ↔ s = t := by
 obtain ⟨⟨a⟩⟩ := s
 obtain ⟨⟨b⟩⟩ := t
 show (Array.instBEq.beq _ _) = true ↔ _
 simp
/-- are these values the same by the order of values? -/
def likeV (a b : Val) : Prop := a.kind = b.kind ∧ (a.kind = 1 → a.num = b.num) ∧ (a.kind = 2 → a.str = b.str) ∧ (a.kind = 3 → a.is = b.is)

theorem likeV_num {n n' : Int} {s s' : ByteArray} {t t' : Bool} : likeV ⟨1, n, s, t⟩ ⟨1, n', s', t'⟩ ↔ n = n' := by simp [likeV]
theorem likeV_str {n n' : Int} {s s' : ByteArray} {t t' : Bool} : likeV ⟨2, n, s, t⟩ ⟨2, n', s', t'⟩ ↔ s = s' := by simp [likeV]
theorem likeV_is {n n' : Int} {s s' : ByteArray} {t t' : Bool} : likeV ⟨3, n, s, t⟩ ⟨3, n', s', t'⟩ ↔ t = t' := by simp [likeV]
theorem likeV_ne {k k' n n' : Int} {s s' : ByteArray} {t t' : Bool} (h : k ≠ k') : ¬ likeV ⟨k, n, s, t⟩ ⟨k', n', s', t'⟩ := fun g => h g.1
theorem likeV_no {k n n' : Int} {s s' : ByteArray} {t t' : Bool} (h : k ≠ 1 ∧ k ≠ 2 ∧ k ≠ 3) : likeV ⟨k, n, s, t⟩ ⟨k, n', s', t'⟩ := ⟨rfl, fun e => absurd e h.1, fun e => absurd e h.2.1, fun e => absurd e h.2.2⟩

/-- the order of values -/
def ordV (a b : Val) : Int :=
 if a.kind ≠ b.kind then (if a.kind < b.kind then -1 else 1)
 else if a.kind = 1 then (if a.num < b.num then -1 else if b.num < a.num then 1 else 0)
 else if a.kind = 2 then (if Op.bytesLess a.str.toList b.str.toList then -1 else if Op.bytesLess b.str.toList a.str.toList then 1 else 0)
 else if a.kind = 3 then (if !a.is && b.is then -1 else if a.is && !b.is then 1 else 0)
 else 0
theorem ordV_zero (a b : Val) : ordV a b = 0 ↔ likeV a b := by
 obtain ⟨k, n, s, t⟩ := a
 obtain ⟨k', n', s', t'⟩ := b
 unfold ordV likeV
 simp only
 by_cases hk : k = k'
 ·subst hk
  by_cases h1 : k = 1
  ·subst h1
   simp
   split <;> (try split) <;> omega
  ·by_cases h2 : k = 2
   ·subst h2
    simp
    cases d1 : Op.bytesLess s.toList s'.toList
    ·cases d2 : Op.bytesLess s'.toList s.toList
     ·simpa using arr_ext (less_total _ _ d1 d2)
     ·simp; intro h; rw [h, less_irrefl] at d2; cases d2
    ·simp; intro h; rw [h, less_irrefl] at d1; cases d1
   ·by_cases h3 : k = 3
    ·subst h3
     cases t <;> cases t' <;> simp
    ·simp [h1, h2, h3]
 ·simp [hk]
  split <;> simp

/-- the order of values, in all that they have -/
def wholeV (a b : Val) : Int :=
 if ordV a b ≠ 0 then ordV a b
 else if ordV ⟨1, a.num, ⟨#[]⟩, false⟩ ⟨1, b.num, ⟨#[]⟩, false⟩ ≠ 0 then ordV ⟨1, a.num, ⟨#[]⟩, false⟩ ⟨1, b.num, ⟨#[]⟩, false⟩
 else if ordV ⟨2, 0, a.str, false⟩ ⟨2, 0, b.str, false⟩ ≠ 0 then ordV ⟨2, 0, a.str, false⟩ ⟨2, 0, b.str, false⟩
 else ordV ⟨3, 0, ⟨#[]⟩, a.is⟩ ⟨3, 0, ⟨#[]⟩, b.is⟩
theorem wholeV_zero (a b : Val) : wholeV a b = 0 ↔ a = b := by
 have h1 := ordV_zero a b
 have h2 := ordV_zero ⟨1, a.num, ⟨#[]⟩, false⟩ ⟨1, b.num, ⟨#[]⟩, false⟩
 have h3 := ordV_zero ⟨2, 0, a.str, false⟩ ⟨2, 0, b.str, false⟩
 have h4 := ordV_zero ⟨3, 0, ⟨#[]⟩, a.is⟩ ⟨3, 0, ⟨#[]⟩, b.is⟩
 rw [likeV_num] at h2
 rw [likeV_str] at h3
 rw [likeV_is] at h4
 obtain ⟨k, n, s, t⟩ := a
 obtain ⟨k', n', s', t'⟩ := b
 unfold wholeV
 simp only at h1 h2 h3 h4 ⊢
 constructor
 ·intro h
  split at h
  ·contradiction
  ·rename_i g1
   split at h
   ·contradiction
   ·rename_i g2
    split at h
    ·contradiction
    ·rename_i g3
     have e1 := (h1.1 (Decidable.not_not.1 g1)).1
     simp only at e1
     rw [e1, h2.1 (Decidable.not_not.1 g2), h3.1 (Decidable.not_not.1 g3), h4.1 h]
 ·intro h
  simp only [Val.mk.injEq] at h
  obtain ⟨rfl, rfl, rfl, rfl⟩ := h
  rw [if_neg (by simp [h1, likeV]), if_neg (by simp [h2]), if_neg (by simp [h3])]
  exact h4.2 rfl
end Go.Proofs.YtfnanbadbmmicaaGreatDoor

namespace Go.Proofs.YtfnanbadbmmicaaGreatDoor
open Go.RowKit

/-- the order of lists, by that of their things -/
def ordL {α : Type} (f : α → α → Int) : List α → List α → Int
 | [], [] => 0
 | [], _ :: _ => -1
 | _ :: _, [] => 1
 | a :: l, b :: m => if f a b = 0 then ordL f l m else f a b
theorem ordL_zero {α : Type} {f : α → α → Int} (hf : ∀ a b, f a b = 0 ↔ a = b) : ∀ l m, ordL f l m = 0 ↔ l = m
 | [], [] => by simp [ordL]
 | [], _ :: _ => by simp [ordL]
 | _ :: _, [] => by simp [ordL]
 | a :: l, b :: m => by
  have ih := ordL_zero hf l m
  have h := hf a b
  unfold ordL
  split
  ·rename_i g; rw [ih]; simp [h.1 g]
  ·rename_i g
   constructor
   ·intro e; exact absurd e g
   ·intro e; simp only [List.cons.injEq] at e; exact absurd (h.2 e.1) g
theorem ordL_step {α : Type} {f : α → α → Int} {l m : List α} {i : Nat} {x y : α} (hx : l[i]? = some x) (hy : m[i]? = some y) :
  ordL f (l.drop i) (m.drop i) = if f x y = 0 then ordL f (l.drop (i + 1)) (m.drop (i + 1)) else f x y := by
 obtain ⟨h1, rfl⟩ := List.getElem?_eq_some_iff.1 hx
 obtain ⟨h2, rfl⟩ := List.getElem?_eq_some_iff.1 hy
 rw [List.drop_eq_getElem_cons h1, List.drop_eq_getElem_cons h2, ordL]
theorem ordL_end {α : Type} {f : α → α → Int} {l m : List α} {i : Nat} (h1 : i ≤ l.length) (h2 : i ≤ m.length) (h : l.length ≤ i ∨ m.length ≤ i) :
  ordL f (l.drop i) (m.drop i) = if l.length < m.length then -1 else if m.length < l.length then 1 else 0 := by
 rcases Nat.lt_trichotomy l.length m.length with g | g | g
 ·have e : l.length = i := by omega
  rw [if_pos g, List.drop_of_length_le (by omega), List.drop_eq_getElem_cons (by omega)]; rfl
 ·rw [if_neg (by omega), if_neg (by omega), List.drop_of_length_le (by omega), List.drop_of_length_le (by omega)]; rfl
 ·have e : m.length = i := by omega
  rw [if_neg (by omega), if_pos g, List.drop_of_length_le (l := m) (by omega), List.drop_eq_getElem_cons (by omega)]; rfl
/-- the order of constraints -/
def ordC (a b : PCon) : Int :=
 if a.name ≠ b.name then (if Op.bytesLess a.name.toList b.name.toList then -1 else 1)
 else if a.op ≠ b.op then (if a.op < b.op then -1 else 1)
 else if wholeV a.val b.val ≠ 0 then wholeV a.val b.val
 else ordL wholeV a.set b.set
theorem ordC_zero (a b : PCon) : ordC a b = 0 ↔ a = b := by
 have hw := wholeV_zero a.val b.val
 have hs := ordL_zero wholeV_zero a.set b.set
 obtain ⟨nm, op, v, s⟩ := a
 obtain ⟨nm', op', v', s'⟩ := b
 unfold ordC
 simp only at hw hs ⊢
 simp only [PCon.mk.injEq]
 by_cases h1 : nm = nm'
 ·subst h1
  by_cases h2 : op = op'
  ·subst h2
   by_cases h3 : wholeV v v' = 0
   ·obtain rfl := hw.1 h3
    simp [h3, hs]
   ·have : ¬ v = v' := fun e => h3 (hw.2 e)
    simp [h3, this]
  ·simp [h2]; split <;> simp
 ·simp [h1]; split <;> simp
/-- the order of predicates -/
def ordP (p q : List PCon) : Int := ordL ordC p q
theorem ordP_zero (p q : List PCon) : ordP p q = 0 ↔ p = q := ordL_zero ordC_zero p q

end Go.Proofs.YtfnanbadbmmicaaGreatDoor

namespace Go.Proofs.YtfnanbadbmmicaaGreatDoor
open Go.RowKit

/-- are these predicates the same? -/
def sameP (l m : List PCon) : Bool := ordP l m == 0
theorem sameP_iff {l m : List PCon} : sameP l m = true ↔ l = m := by unfold sameP; rw [beq_iff_eq, ordP_zero]
/-- are these items the same? -/
def sameI (x y : PIt) : Bool := (x.n == y.n) && ((x.time == y.time) && sameE x.key x.es y.key y.es)
set_option maxRecDepth 100000 in
theorem same_item_any (x y : It) (w : World) (h : x.fine w) (h' : y.fine w) :
  Calls Tryz.prog 13 #[.agg x.cells.toArray, .agg y.cells.toArray] w fun e w' => e = .returned (.bool (sameI x.plain y.plain)) ∧ Old w w' := by
 have C := fun W (k : Old w W) => same_ev_any x.key y.key x.av y.av x.es y.es W (h.1.old k) (h'.1.old k)
 obtain ⟨n, tm, key, av, es⟩ := x
 obtain ⟨n', tm', key', av', es'⟩ := y
 obtain ⟨p, c, e1, _, _⟩ := h.1.len
 obtain ⟨p', c', e2, _, _⟩ := h'.1.len
 simp only at e1 e2
 subst e1 e2
 unfold It.cells It.plain sameI
 simp only at C ⊢
 generalize sameE key es key' es' = z at C ⊢
 have HC := Lib.hid C
 obtain ⟨W0, hW0⟩ : ∃ W0, (w.alloc (.cells #[.int .u64 n, .int .u64 tm, .string key, .slice p es.length c] 39)).alloc (.cells #[.int .u64 n', .int .u64 tm', .string key', .slice p' es'.length c'] 39) = W0 := ⟨_, rfl⟩
 have k0 : Old w W0 := by rw [← hW0]; exact ((Keeps.refl _ _).alloc _).alloc _
 obtain ⟨b0, b1⟩ := two_blocks w (.cells #[.int .u64 n, .int .u64 tm, .string key, .slice p es.length c] 39) (.cells #[.int .u64 n', .int .u64 tm', .string key', .slice p' es'.length c'] 39)
 rw [hW0] at b0 b1
 have g0 := blk4 b0
 have g1 := blk4 b1
 have K := Lib.hid k0
 clear k0 b0 b1 C h h'
 cases hn : (n == n')
 ·have hi : ((n : Int) == (n' : Int)) = false := by rw [beq_eq_false_iff_ne] at hn ⊢; omega
  clear hn
  go_enter Tryz.func13, Tryz.ntmps13
  go_wp2_with fail
  go_ret
  exact ⟨rfl, K.out⟩
 ·have hi : ((n : Int) == (n' : Int)) = true := by rw [beq_iff_eq] at hn ⊢; omega
  clear hn
  cases ht : (tm == tm')
  ·have hi2 : ((tm : Int) == (tm' : Int)) = false := by rw [beq_eq_false_iff_ne] at ht ⊢; omega
   clear ht
   go_enter Tryz.func13, Tryz.ntmps13
   go_wp2_with fail
   go_ret
   exact ⟨rfl, K.out⟩
  ·have hi2 : ((tm : Int) == (tm' : Int)) = true := by rw [beq_iff_eq] at ht ⊢; omega
   clear ht
   go_enter Tryz.func13, Tryz.ntmps13
   go_wp2_with fail
   refine (HC.out _ K.out).mono ?_
   rintro e w1 ⟨rfl, k1⟩
   have K1 := Lib.hid k1
   clear k1
   go_wp2_with fail
   go_ret
   exact ⟨rfl, K.out.trans K1.out⟩
end Go.Proofs.YtfnanbadbmmicaaGreatDoor

namespace Go.Proofs.YtfnanbadbmmicaaGreatDoor
open Go.RowKit

theorem eq_u64 (d : Nat) (x y : Int) (W : World) : (Op.equalIn (d+1) 34 (.int .u64 x) (.int .u64 y)).run Tryz.prog W = .ok (x == y) W := by
 unfold Op.equalIn; simp [go_sem]
theorem eqAt_iff (a b : At) : eqAt a b = true ↔ a = b := by
 obtain ⟨x, ⟨k, n, s, t⟩⟩ := a
 obtain ⟨x', ⟨k', n', s', t'⟩⟩ := b
 unfold eqAt
 simp only [Bool.and_eq_true, bytes_eq, beq_iff_eq, At.mk.injEq, Val.mk.injEq]
theorem sameE_iff (k k' : ByteArray) (l m : List At) : sameE k l k' m = true ↔ k = k' ∧ l = m := by
 unfold sameE sameL
 simp only [Bool.and_eq_true, beq_iff_eq, decide_eq_true_eq, List.all_eq_true, List.mem_range]
 constructor
 ·rintro ⟨h1, h2, h3⟩
  refine ⟨arr_ext h1, List.ext_getElem h2 (fun i g1 g2 => ?_)⟩
  have h := h3 i g1
  unfold sameAt at h
  rw [List.getElem?_eq_getElem g1, List.getElem?_eq_getElem g2] at h
  exact (eqAt_iff _ _).1 h
 ·rintro ⟨rfl, rfl⟩
  refine ⟨rfl, rfl, fun i hi => ?_⟩
  unfold sameAt
  rw [List.getElem?_eq_getElem hi]
  exact (eqAt_iff _ _).2 rfl
theorem sameI_iff (x y : PIt) : sameI x y = true ↔ x = y := by
 obtain ⟨n, tm, k, es⟩ := x
 obtain ⟨n', tm', k', es'⟩ := y
 unfold sameI
 simp only [Bool.and_eq_true, beq_iff_eq, sameE_iff, PIt.mk.injEq]
/-- are these lists the same? -/
def eqL {α : Type} (f : α → α → Bool) : List α → List α → Bool
 | [], [] => true
 | a :: l, b :: m => f a b && eqL f l m
 | [], _ :: _ => false
 | _ :: _, [] => false
theorem eqL_iff {α : Type} {f : α → α → Bool} (hf : ∀ a b, f a b = true ↔ a = b) : ∀ l m, eqL f l m = true ↔ l = m
 | [], [] => by simp [eqL]
 | [], _ :: _ => by simp [eqL]
 | _ :: _, [] => by simp [eqL]
 | a :: l, b :: m => by simp [eqL, hf, eqL_iff hf l m]
/-- are these pages the same? -/
def sameG (x y : PPg) : Bool := (x.fr == y.fr) && ((x.en == y.en) && ((x.last == y.last) && (eqL sameI x.items y.items && eqL (fun a b => a == b) x.gaps y.gaps)))
theorem sameG_iff (x y : PPg) : sameG x y = true ↔ x = y := by
 obtain ⟨a, b, c, d, e⟩ := x
 obtain ⟨a', b', c', d', e'⟩ := y
 unfold sameG
 simp only [Bool.and_eq_true, beq_iff_eq, eqL_iff sameI_iff, eqL_iff (fun (a b : PGap) => (beq_iff_eq : (a == b) = true ↔ a = b)), PPg.mk.injEq]
 constructor
 ·rintro ⟨h1, h2, h3, h4, h5⟩; exact ⟨h1, h2, h4, h5, h3⟩
 ·rintro ⟨h1, h2, h4, h5, h3⟩; exact ⟨h1, h2, h3, h4, h5⟩
theorem sameG_no {x y : PPg} (h : ¬ x = y) : sameG x y = false := by rw [Bool.eq_false_iff]; exact fun g => h ((sameG_iff x y).1 g)
theorem take_next {α : Type} {l m : List α} {i : Nat} (h : l.take i = m.take i) {x : α} (hx : l[i]? = some x) (hy : m[i]? = some x) : l.take (i + 1) = m.take (i + 1) := by
 rw [List.take_add_one, List.take_add_one, h, hx, hy]

end Go.Proofs.YtfnanbadbmmicaaGreatDoor
