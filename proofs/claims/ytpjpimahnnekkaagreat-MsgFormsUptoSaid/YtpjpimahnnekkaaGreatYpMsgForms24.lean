/- DERIVED. codec.TakeItem. · DERIVED. codec.TakePred. -/
import Derived.Test.YtpjpimahnnekkaaGreatYpMsgForms23
set_option maxRecDepth 100000
set_option maxHeartbeats 4000000
namespace Go.Proofs.YtpjpimahnnekkaaGreat
section
open Go.RowKit
def takeI (l : List UInt8) : Option (PIt) := (pItem l).bind fun x => if itOk x.1 && decide (x.2 = []) then some x.1 else none
def TkI (w : World) (res : Option (PIt)) (e : Ending) (w' : World) : Prop :=
 Old w w' ∧ match res with
 | some x => ∃ p n c, e = .returned (.tuple #[.agg #[.int .u64 x.n, .int .u64 x.time, .string x.key, .slice p n c], .int .i64 0]) ∧ OwnsA w' w.heap.size (.slice p n c) x.es
 | none => e = .returned (.tuple #[.agg #[.int .u64 0, .int .u64 0, .string ⟨#[]⟩, .slice none 0 0], .int .i64 5])
theorem TkI.no {w w' : World} {res : Option (PIt)} (h : res = none) (k : Old w w') : TkI w res (.returned (.tuple #[.agg #[.int .u64 0, .int .u64 0, .string ⟨#[]⟩, .slice none 0 0], .int .i64 5])) w' := by subst h; exact ⟨k, rfl⟩
theorem TkI.yes {w w' : World} {res : Option (PIt)} {num tm : Nat} {key : ByteArray} {es : List At} {p : Option Addr} {n c : Nat} (h : res = some (⟨num, tm, key, es⟩ : PIt)) (k : Old w w') (ho : OwnsA w' w.heap.size (.slice p n c) es) : TkI w res (.returned (.tuple #[.agg #[.int .u64 num, .int .u64 tm, .string key, .slice p n c], .int .i64 0])) w' := by subst h; exact ⟨k, p, n, c, rfl, ho⟩
theorem tk_it_panic (xb eb : Nat) (x0 x1 x2 x3 : Value) (n : Int) (w : World) (hx : w.heap[xb]? = some (.cells #[x0, x1, x2, x3] 29 (0, 0))) (he : w.heap[eb]? = some (.cells #[.int .i64 n] 39 (0, 0))) (hne : xb ≠ eb) :
  CallsD Tryz.prog 123 #[.pointer (some ⟨xb, 0, none⟩), .pointer (some ⟨eb, 0, none⟩)] (.panicking fault) w fun e u' w' =>
   e = .returned (.tuple #[]) ∧ u' = .panicking [{ v := .iface 181 (.agg #[]), recovered := true }] ∧ w'.heap[xb]? = some (.cells #[.int .u64 0, .int .u64 0, .string ⟨#[]⟩, .slice none 0 0] 29 (0, 0)) ∧ w'.heap[eb]? = some (.cells #[.int .i64 5] 39 (0, 0)) ∧ Keeps (fun k => k = xb ∨ k = eb) w w' := by
 have hta : ∀ w, (Instr.typeAssert (.iface 181 (.agg #[])) 20 181 true).run Tryz.prog w = .ok (.tuple #[.agg #[], .bool true]) w := fun _ => by kernel_rfl
 have g1 := blk4 hx
 have g2 := blk1 he
 have l1 := lt_of_heap hx
 have l2 := lt_of_heap he
 have n1 : xb ≠ w.heap.size := by omega
 have n2 : eb ≠ w.heap.size := by omega
 have hne' : eb ≠ xb := Ne.symm hne
 have HX := Lib.hid (And.intro hx he)
 clear hx he
 refine callsD_of_wpS Tryz.func123 rfl fun c₀ cs hu => ?_
 apply wpS_seq
 apply wpS_region
 simp [wpOpsS, go_sem, recoverD, hu, Tryz.ntmps123, Exit.thenS]
 refine wpS_of_wp ?_
 go_wp2_with fail
 have q1 := set4 (a0 := .int .u64 0) (a1 := .int .u64 0) (a2 := .string ⟨#[]⟩) (a3 := .slice none 0 0) HX.out.1
 have q2 := (heap_setCell_other ((((w.setCell ⟨xb, 0, none⟩ (.int .u64 0)).setCell ⟨xb, 1, none⟩ (.int .u64 0)).setCell ⟨xb, 2, none⟩ (.string ⟨#[]⟩)).setCell ⟨xb, 3, none⟩ (.slice none 0 0)) ⟨eb, 0, none⟩ xb (.int .i64 5) hne).trans q1
 have k1 := keep4 (a0 := .int .u64 0) (a1 := .int .u64 0) (a2 := .string ⟨#[]⟩) (a3 := .slice none 0 0) w xb
 have q3 := heap_setCell_same ((((w.setCell ⟨xb, 0, none⟩ (.int .u64 0)).setCell ⟨xb, 1, none⟩ (.int .u64 0)).setCell ⟨xb, 2, none⟩ (.string ⟨#[]⟩)).setCell ⟨xb, 3, none⟩ (.slice none 0 0)) eb 0 _ _ (.int .i64 5) ((k1.block eb l2 hne').trans HX.out.2)
 have k2 : Keeps (fun k => k = xb ∨ k = eb) w ((((w.setCell ⟨xb, 0, none⟩ (.int .u64 0)).setCell ⟨xb, 1, none⟩ (.int .u64 0)).setCell ⟨xb, 2, none⟩ (.string ⟨#[]⟩)).setCell ⟨xb, 3, none⟩ (.slice none 0 0)) := k1.weaken (fun i _ e => Or.inl e)
 have k3 := k2.setCell (p := ⟨eb, 0, none⟩) (fun _ => Or.inr rfl) (.int .i64 5)
 refine ⟨rfl, _, rfl, .tuple #[], by simp [results, Tryz.results123, go_sem], rfl, rfl, ?_, ?_, ?_⟩
 ·rw [heap_alloc_old _ _ (by simpa using l1)]; exact q2
 ·rw [heap_alloc_old _ _ (by simpa using l2)]; simpa using q3
 ·exact k3.alloc _
theorem tk_it_idle (xb eb : Nat) (w : World) :
  CallsD Tryz.prog 123 #[.pointer (some ⟨xb, 0, none⟩), .pointer (some ⟨eb, 0, none⟩)] .returning w fun e u' w' => e = .returned (.tuple #[]) ∧ u' = .returning ∧ w' = w := by
 refine callsD_of_wpS Tryz.func123 rfl fun c₀ cs hu => ?_
 apply wpS_seq
 apply wpS_region
 simp [wpOpsS, go_sem, recoverD, hu, Tryz.ntmps123, Exit.thenS]
 refine wpS_of_wp ?_
 go_wp2_with fail
 cases c₀
 simp_all [bodyPostS, results, Tryz.results123, go_sem]
theorem it_results (tmps : Array Value) (xb eb : Nat) (y0 y1 y2 y3 : Value) (n : Int) (w : World) (h6 : tmps.getD 6 undef = .pointer (some ⟨xb, 0, none⟩)) (h7 : tmps.getD 7 undef = .pointer (some ⟨eb, 0, none⟩)) (c0 : w.cell? ⟨xb, 0, none⟩ = some y0) (c1 : w.cell? ⟨xb, 1, none⟩ = some y1) (c2 : w.cell? ⟨xb, 2, none⟩ = some y2) (c3 : w.cell? ⟨xb, 3, none⟩ = some y3) (hn : w.cell? ⟨eb, 0, none⟩ = some (.int .i64 n)) :
  (results Tryz.f89 tmps).run Tryz.prog w = .ok (.tuple #[.agg #[y0, y1, y2, y3], .int .i64 n]) w := by
 simp only [Array.getD_eq_getD_getElem?] at h6 h7
 simp [results, Tryz.results89, go_sem, h6, h7, c0, c1, c2, c3, hn]
theorem it_door_bad {w wd : World} {Q : Ending → World → Prop} (hx : ∃ y0 y1 y2 y3, wd.heap[w.heap.size]? = some (.cells #[y0, y1, y2, y3] 29 (0, 0))) (he : ∃ n : Int, wd.heap[w.heap.size + 1]? = some (.cells #[.int .i64 n] 39 (0, 0))) (hk : Old w wd) (tmps : Array Value) (h6 : tmps.getD 6 undef = .pointer (some ⟨w.heap.size, 0, none⟩)) (h7 : tmps.getD 7 undef = .pointer (some ⟨w.heap.size + 1, 0, none⟩))
  (hQ : ∀ w', Old w w' → Q (.returned (.tuple #[.agg #[.int .u64 0, .int .u64 0, .string ⟨#[]⟩, .slice none 0 0], .int .i64 5])) w') :
  Leaves Tryz.prog Tryz.f89 tmps Q [{ target := .fn (.func 123) #[.pointer (some ⟨w.heap.size, 0, none⟩), .pointer (some ⟨w.heap.size + 1, 0, none⟩)], args := #[] }] (.panicking fault) wd := by
 obtain ⟨y0, y1, y2, y3, hx⟩ := hx
 obtain ⟨n, he⟩ := he
 refine leaves_cons (f := 123) (args := #[.pointer (some ⟨w.heap.size, 0, none⟩), .pointer (some ⟨w.heap.size + 1, 0, none⟩)]) (by simp) (by simp [go_sem]) ?_
 refine (tk_it_panic _ _ _ _ _ _ n wd hx he (by omega)).mono ?_
 rintro e u' w'' ⟨rfl, rfl, q1, q2, k2⟩
 have hr := it_results tmps _ _ _ _ _ _ _ w'' h6 h7 (blk4 q1).1.1 (blk4 q1).1.2.1 (blk4 q1).1.2.2.1 (blk4 q1).1.2.2.2 (blk1 q2).1
 have hq := hQ w'' (hk.then k2 (fun i hi e => by omega))
 simp [Leaves, settle]
 exact ⟨_, hr, hq⟩
theorem it_door_ok {w wd : World} {Q : Ending → World → Prop} (y0 y1 y2 y3 : Value) (hx : wd.heap[w.heap.size]? = some (.cells #[y0, y1, y2, y3] 29 (0, 0))) (he : wd.heap[w.heap.size + 1]? = some (.cells #[.int .i64 0] 39 (0, 0))) (tmps : Array Value) (h6 : tmps.getD 6 undef = .pointer (some ⟨w.heap.size, 0, none⟩)) (h7 : tmps.getD 7 undef = .pointer (some ⟨w.heap.size + 1, 0, none⟩))
  (hQ : Q (.returned (.tuple #[.agg #[y0, y1, y2, y3], .int .i64 0])) wd) :
  Leaves Tryz.prog Tryz.f89 tmps Q [{ target := .fn (.func 123) #[.pointer (some ⟨w.heap.size, 0, none⟩), .pointer (some ⟨w.heap.size + 1, 0, none⟩)], args := #[] }] .returning wd := by
 refine leaves_cons (f := 123) (args := #[.pointer (some ⟨w.heap.size, 0, none⟩), .pointer (some ⟨w.heap.size + 1, 0, none⟩)]) (by simp) (by simp [go_sem]) ?_
 refine (tk_it_idle _ _ wd).mono ?_
 rintro e u' w'' ⟨rfl, rfl, rfl⟩
 have hr := it_results tmps _ _ y0 y1 y2 y3 _ w'' h6 h7 (blk4 hx).1.1 (blk4 hx).1.2.1 (blk4 hx).1.2.2.1 (blk4 hx).1.2.2.2 (blk1 he).1
 exact ⟨_, hr, hQ⟩
theorem taken_it_any (v : Value) (l : List UInt8) (w : World) (h : Sees w v l) (hl : l.length ≤ 1000000000) :
  Calls Tryz.prog 89 #[v, .func (.func 90) #[] #[], .func (.func 31) #[] #[]] w (TkI w (takeI l)) := by
 have hmf : ∀ (fn : Fn) (first cap : Array Value) (w : World), (Instr.makeFunc fn first cap).run Tryz.prog w = .ok (.func fn first cap) w := fun _ _ _ _ => rfl
 obtain ⟨pv, cv, rfl, _, _⟩ := h.len
 obtain ⟨W0, hW0⟩ : ∃ W0, (w.alloc (.cells #[.int .u64 0, .int .u64 0, .string ⟨#[]⟩, .slice none 0 0] 29)).alloc (.cells #[.int .i64 0] 39) = W0 := ⟨_, rfl⟩
 have k0 : Old w W0 := by rw [← hW0]; exact ((Keeps.refl _ _).alloc _).alloc _
 have hb := two_blocks w (.cells #[.int .u64 0, .int .u64 0, .string ⟨#[]⟩, .slice none 0 0] 29) (.cells #[.int .i64 0] 39)
 rw [hW0] at hb
 have hs0 := h.old k0
 have HNew := Lib.hid (new_any _ l W0 hs0 hl)
 have HB := Lib.hid hb
 have HK := Lib.hid k0
 have HS := Lib.hid h
 have hsz : w.heap.size + 1 < W0.heap.size := lt_of_heap hb.2
 have hent1 : ∀ (args : Array Value) (w : World), (callFunc 90 args).run Tryz.prog w = .ok (.enter 90 args) w := fun args W => by simp [go_sem, callFunc, Tryz.func90]; rfl
 have hent2 : ∀ (args : Array Value) (w : World), (callFunc 31 args).run Tryz.prog w = .ok (.enter 31 args) w := fun args W => by simp [go_sem, callFunc, Tryz.func31]; rfl
 clear hb hs0 k0 h
 go_enter_defers Tryz.func89, Tryz.ntmps89
 go_wp2_with fail
 refine HNew.out.mono ?_
 rintro e w1 ⟨rb, bb, rfl, hR1, hrb, hbb, k1⟩
 have HE := Lib.hid (citem_any w1.heap.size rb bb l w1 hR1)
 have K1 := Lib.hid k1
 clear hR1 k1 HNew
 go_wp2_with fail
 refine HE.out.mono ?_
 intro e w2 ht
 clear HE
 cases hp : pItem l with
 | none =>
  rw [hp] at ht
  obtain ⟨rfl, hbad⟩ : e = .panicked fault ∧ Bad w1 w1.heap.size rb bb w2 := ht
  have hk2 : Old W0 w2 := K1.out.then hbad.2 (fun i hi e => by omega)
  have R := Lib.hid (And.intro ((hk2.block _ (lt_of_heap HB.out.1) (fun f => f)).trans HB.out.1) (And.intro ((hk2.block _ (lt_of_heap HB.out.2) (fun f => f)).trans HB.out.2) (HK.out.trans hk2)))
  have er : takeI l = none := by unfold takeI; rw [hp]; rfl
  have HER := Lib.hid er
  clear hbad hk2 er hp
  go_wp2_with fail
  exact it_door_bad ⟨_, _, _, _, R.out.1⟩ ⟨_, R.out.2.1⟩ R.out.2.2 _ rfl rfl (fun w' h => TkI.no HER.out h)
 | some x =>
  obtain ⟨⟨num, tm, key, es⟩, r⟩ := x
  rw [hp] at ht
  obtain ⟨⟨p', n', c', rfl, ho⟩, hR2, k2⟩ : (∃ p n c, e = .returned (.agg #[.int .u64 num, .int .u64 tm, .string key, .slice p n c]) ∧ OwnsA w2 w1.heap.size (.slice p n c) es) ∧ Rd w2 w1.heap.size rb bb r ∧ RK rb w1 w2 := ht
  obtain ⟨hfit, hb1, hb2, hinv⟩ := pItem_inv hp
  simp only at hfit hb1 hb2
  have er : takeI l = if itOk (⟨num, tm, key, es⟩ : PIt) && decide (r = []) then some (⟨num, tm, key, es⟩ : PIt) else none := by unfold takeI; rw [hp]; rfl
  have hk2 : Old W0 w2 := K1.out.then k2 (fun i hi e => by omega)
  have b0 := (hk2.block _ (lt_of_heap HB.out.1) (fun f => f)).trans HB.out.1
  have b1 := (hk2.block _ (lt_of_heap HB.out.2) (fun f => f)).trans HB.out.2
  have g0 := blk4 b0
  have hl0 := lt_of_heap b0
  have hl1 := lt_of_heap b1
  obtain ⟨W2, hW2⟩ : ∃ W2, ((((w2.setCell ⟨w.heap.size, 0, none⟩ (.int .u64 num)).setCell ⟨w.heap.size, 1, none⟩ (.int .u64 tm)).setCell ⟨w.heap.size, 2, none⟩ (.string key)).setCell ⟨w.heap.size, 3, none⟩ (.slice p' n' c')) = W2 := ⟨_, rfl⟩
  have c0 := set4 (a0 := .int .u64 num) (a1 := .int .u64 tm) (a2 := .string key) (a3 := .slice p' n' c') b0
  have kc := keep4 (a0 := .int .u64 num) (a1 := .int .u64 tm) (a2 := .string key) (a3 := .slice p' n' c') w2 w.heap.size
  rw [hW2] at c0 kc
  have c1 := (kc.block _ hl1 (by omega)).trans b1
  have ho2 := ho.keeps kc (fun b hb e => by have := (ho.block b hb).1; have := K1.out.size; omega)
  have ha := ho2.sees (fun _ => rfl) (by decide)
  have hbl : 0 < es.length → ∀ k, (Value.slice p' n' c').ownBlock = some k → k < W2.heap.size := fun _ k hk => (ho2.block k hk).2
  have hkw : Old w W2 := (HK.out.trans hk2).then kc (fun i hi e => by omega)
  have hfi : (⟨num, tm, key, .slice p' n' c', es⟩ : It).fine W2 := ⟨ha, fun _ k hk => (ho2.block k hk).2, hfit, by simp only; omega, by simp only; omega⟩
  have HW2 := Lib.hid hW2
  have HC := Lib.hid (And.intro c0 (And.intro c1 (And.intro hkw ho2)))
  have hw1 := K1.out.size
  cases hok : itOk (⟨num, tm, key, es⟩ : PIt) with
  | false =>
   have HP0 : Calls Tryz.prog 31 #[.agg #[.int .u64 num, .int .u64 tm, .string key, .slice p' n' c']] W2 (fun e w' => e = .returned (.tuple #[.slice none 0 0, .int .i64 30]) ∧ Old W2 w') := (put_item_no_any (⟨num, tm, key, .slice p' n' c', es⟩ : It) W2 hfi hok)
   have HP := Lib.hid HP0
   clear HP0
   rw [hok] at er
   have HER := Lib.hid (show takeI l = none from er)
   clear hfi hb1 hb2
   clear ho hR2 k2 hk2 b0 b1 c0 kc c1 ho2 ha hbl hkw hW2 hinv hfit er hp hok
   go_wp2_with fail
   rw [HW2.out]
   refine HP.out.mono ?_
   rintro e w3 ⟨rfl, k3⟩
   have R := Lib.hid (And.intro ((k3.block _ (lt_of_heap HC.out.1) (fun f => f)).trans HC.out.1) (And.intro ((k3.block _ (lt_of_heap HC.out.2.1) (fun f => f)).trans HC.out.2.1) (HC.out.2.2.1.trans k3)))
   clear k3
   go_wp2_with fail
   exact it_door_bad ⟨_, _, _, _, R.out.1⟩ ⟨_, R.out.2.1⟩ R.out.2.2 _ rfl rfl (fun w' h => TkI.no HER.out h)
  | true =>
   have HP0 : Calls Tryz.prog 31 #[.agg #[.int .u64 num, .int .u64 tm, .string key, .slice p' n' c']] W2 (Formed W2 (itForm (⟨num, tm, key, es⟩ : PIt))) := (put_item_any (⟨num, tm, key, .slice p' n' c', es⟩ : It) W2 hfi hok)
   have HP := Lib.hid HP0
   clear HP0
   have hform := hinv hok
   have HF := Lib.hid hform
   rw [hok] at er
   have HER := Lib.hid (show takeI l = if decide (r = []) then some (⟨num, tm, key, es⟩ : PIt) else none from by simpa using er)
   skip
   clear hfi hb1 hb2
   clear ho hR2 k2 hk2 b0 b1 c0 kc c1 ho2 ha hbl hkw hW2 hinv hfit er hp hok hform
   go_wp2_with fail
   rw [HW2.out]
   refine HP.out.mono ?_
   rintro e w3 ⟨p3, n3, c3, rfl, ho3, k3⟩
   have d0 := (k3.block _ (lt_of_heap HC.out.1) (fun f => f)).trans HC.out.1
   have d1 := (k3.block _ (lt_of_heap HC.out.2.1) (fun f => f)).trans HC.out.2.1
   have g3 := blk4 d0
   have g4 := blk1 d1
   have R := Lib.hid (And.intro d0 (And.intro d1 (And.intro (HC.out.2.2.1.trans k3) (HC.out.2.2.2.old k3))))
   have EQ := Lib.hid (equal_any _ _ _ _ w3 ho3.sees (HS.out.old (HC.out.2.2.1.trans k3)))
   clear k3 ho3 d0 d1
   by_cases hr : r = []
   ·have hb : (itForm (⟨num, tm, key, es⟩ : PIt) == l) = true := by rw [HF.out, hr]; simp
    rw [hb] at EQ
    have HR := Lib.hid hr
    clear hb hr HF
    go_wp2_with fail
    refine EQ.out.mono ?_
    rintro e w4 ⟨rfl, rfl⟩
    go_wp2_with fail
    have q1 := set4 (a0 := .int .u64 num) (a1 := .int .u64 tm) (a2 := .string key) (a3 := .slice p' n' c') R.out.1
    have k4 := keep4 (a0 := .int .u64 num) (a1 := .int .u64 tm) (a2 := .string key) (a3 := .slice p' n' c') w3 w.heap.size
    have q2 := (heap_setCell_other ((((w3.setCell ⟨w.heap.size, 0, none⟩ (.int .u64 num)).setCell ⟨w.heap.size, 1, none⟩ (.int .u64 tm)).setCell ⟨w.heap.size, 2, none⟩ (.string key)).setCell ⟨w.heap.size, 3, none⟩ (.slice p' n' c')) ⟨w.heap.size + 1, 0, none⟩ w.heap.size (.int .i64 0) (by simp)).trans q1
    have q3 := heap_setCell_same ((((w3.setCell ⟨w.heap.size, 0, none⟩ (.int .u64 num)).setCell ⟨w.heap.size, 1, none⟩ (.int .u64 tm)).setCell ⟨w.heap.size, 2, none⟩ (.string key)).setCell ⟨w.heap.size, 3, none⟩ (.slice p' n' c')) (w.heap.size + 1) 0 _ _ (.int .i64 0) ((k4.block _ (lt_of_heap R.out.2.1) (by omega)).trans R.out.2.1)
    have k5 : Keeps (fun k => k = w.heap.size ∨ k = w.heap.size + 1) w3 ((((w3.setCell ⟨w.heap.size, 0, none⟩ (.int .u64 num)).setCell ⟨w.heap.size, 1, none⟩ (.int .u64 tm)).setCell ⟨w.heap.size, 2, none⟩ (.string key)).setCell ⟨w.heap.size, 3, none⟩ (.slice p' n' c')) := k4.weaken (fun i _ e => Or.inl e)
    have k6 := k5.setCell (p := ⟨w.heap.size + 1, 0, none⟩) (fun _ => Or.inr rfl) (.int .i64 0)
    have ho9 := R.out.2.2.2.keeps k6 (fun b hb e => by have := (R.out.2.2.2.block b hb).1; omega)
    exact it_door_ok _ _ _ _ q2 (by simpa using q3) _ rfl rfl (TkI.yes (by rw [HER.out, if_pos (by simpa using HR.out)]) (R.out.2.2.1.then k6 (fun i hi e => by omega)) (ho9.mono (by omega)))
   ·have hb : (itForm (⟨num, tm, key, es⟩ : PIt) == l) = false := by
     rw [HF.out]
     refine beq_eq_false_iff_ne.2 (fun e => hr ?_)
     simpa using e
    rw [hb] at EQ
    have HR := Lib.hid hr
    clear hb hr HF
    go_wp2_with fail
    refine EQ.out.mono ?_
    rintro e w4 ⟨rfl, rfl⟩
    go_wp2_with fail
    exact it_door_bad ⟨_, _, _, _, R.out.1⟩ ⟨_, R.out.2.1⟩ R.out.2.2.1 _ rfl rfl (fun w' h => TkI.no (by rw [HER.out, if_neg (by simpa using HR.out)]) h)
end
section
open Go.RowKit
def takeP (l : List UInt8) : Option (List PCon) := (pPred l).bind fun x => if okP x.1 && decide (x.2 = []) then some x.1 else none
def TkP (w : World) (res : Option (List PCon)) (e : Ending) (w' : World) : Prop :=
 Old w w' ∧ match res with
 | some x => ∃ p n c s', e = .returned (.tuple #[.slice p n c, .int .i64 0]) ∧ List.map Con.plain s' = x ∧ OwnN w' w.heap.size 72 7 Con.cells Con.sv ConF (.slice p n c) s'
 | none => e = .returned (.tuple #[.slice none 0 0, .int .i64 5])
theorem TkP.no {w w' : World} {res : Option (List PCon)} (h : res = none) (k : Old w w') : TkP w res (.returned (.tuple #[.slice none 0 0, .int .i64 5])) w' := by subst h; exact ⟨k, rfl⟩
theorem TkP.yes {w w' : World} {res : Option (List PCon)} {cs : List PCon} {s' : List Con} {p : Option Addr} {n c : Nat} (h : res = some cs) (k : Old w w') (hs : s'.map Con.plain = cs) (ho : OwnN w' w.heap.size 72 7 Con.cells Con.sv ConF (.slice p n c) s') : TkP w res (.returned (.tuple #[.slice p n c, .int .i64 0])) w' := by subst h; exact ⟨k, p, n, c, s', rfl, hs, ho⟩
theorem tk_pd_panic (xb eb : Nat) (x0 : Value) (n : Int) (w : World) (hx : w.heap[xb]? = some (.cells #[x0] 24 (0, 0))) (he : w.heap[eb]? = some (.cells #[.int .i64 n] 39 (0, 0))) (hne : xb ≠ eb) :
  CallsD Tryz.prog 119 #[.pointer (some ⟨xb, 0, none⟩), .pointer (some ⟨eb, 0, none⟩)] (.panicking fault) w fun e u' w' =>
   e = .returned (.tuple #[]) ∧ u' = .panicking [{ v := .iface 181 (.agg #[]), recovered := true }] ∧ w'.heap[xb]? = some (.cells #[.slice none 0 0] 24 (0, 0)) ∧ w'.heap[eb]? = some (.cells #[.int .i64 5] 39 (0, 0)) ∧ Keeps (fun k => k = xb ∨ k = eb) w w' := by
 have hta : ∀ w, (Instr.typeAssert (.iface 181 (.agg #[])) 20 181 true).run Tryz.prog w = .ok (.tuple #[.agg #[], .bool true]) w := fun _ => by kernel_rfl
 have g1 := blk1 hx
 have g2 := blk1 he
 have l1 := lt_of_heap hx
 have l2 := lt_of_heap he
 have n1 : xb ≠ w.heap.size := by omega
 have n2 : eb ≠ w.heap.size := by omega
 have hne' : eb ≠ xb := Ne.symm hne
 have HX := Lib.hid (And.intro hx he)
 clear hx he
 refine callsD_of_wpS Tryz.func119 rfl fun c₀ cs hu => ?_
 apply wpS_seq
 apply wpS_region
 simp [wpOpsS, go_sem, recoverD, hu, Tryz.ntmps119, Exit.thenS]
 refine wpS_of_wp ?_
 go_wp2_with fail
 have q1 := set1 (a0 := .slice none 0 0) HX.out.1
 have q2 := (heap_setCell_other (w.setCell ⟨xb, 0, none⟩ (.slice none 0 0)) ⟨eb, 0, none⟩ xb (.int .i64 5) hne).trans q1
 have k1 := keep1 (a0 := .slice none 0 0) w xb
 have q3 := heap_setCell_same (w.setCell ⟨xb, 0, none⟩ (.slice none 0 0)) eb 0 _ _ (.int .i64 5) ((k1.block eb l2 hne').trans HX.out.2)
 have k2 : Keeps (fun k => k = xb ∨ k = eb) w (w.setCell ⟨xb, 0, none⟩ (.slice none 0 0)) := k1.weaken (fun i _ e => Or.inl e)
 have k3 := k2.setCell (p := ⟨eb, 0, none⟩) (fun _ => Or.inr rfl) (.int .i64 5)
 refine ⟨rfl, _, rfl, .tuple #[], by simp [results, Tryz.results119, go_sem], rfl, rfl, ?_, ?_, ?_⟩
 ·exact q2
 ·simpa using q3
 ·exact k3
theorem tk_pd_idle (xb eb : Nat) (w : World) :
  CallsD Tryz.prog 119 #[.pointer (some ⟨xb, 0, none⟩), .pointer (some ⟨eb, 0, none⟩)] .returning w fun e u' w' => e = .returned (.tuple #[]) ∧ u' = .returning ∧ w' = w := by
 refine callsD_of_wpS Tryz.func119 rfl fun c₀ cs hu => ?_
 apply wpS_seq
 apply wpS_region
 simp [wpOpsS, go_sem, recoverD, hu, Tryz.ntmps119, Exit.thenS]
 refine wpS_of_wp ?_
 go_wp2_with fail
 cases c₀
 simp_all [bodyPostS, results, Tryz.results119, go_sem]
theorem pd_results (tmps : Array Value) (xb eb : Nat) (y0 : Value) (n : Int) (w : World) (h6 : tmps.getD 6 undef = .pointer (some ⟨xb, 0, none⟩)) (h7 : tmps.getD 7 undef = .pointer (some ⟨eb, 0, none⟩)) (c0 : w.cell? ⟨xb, 0, none⟩ = some y0) (hn : w.cell? ⟨eb, 0, none⟩ = some (.int .i64 n)) :
  (results Tryz.f87 tmps).run Tryz.prog w = .ok (.tuple #[y0, .int .i64 n]) w := by
 simp only [Array.getD_eq_getD_getElem?] at h6 h7
 simp [results, Tryz.results87, go_sem, h6, h7, c0, hn]
theorem pd_door_bad {w wd : World} {Q : Ending → World → Prop} (hx : ∃ y0, wd.heap[w.heap.size]? = some (.cells #[y0] 24 (0, 0))) (he : ∃ n : Int, wd.heap[w.heap.size + 1]? = some (.cells #[.int .i64 n] 39 (0, 0))) (hk : Old w wd) (tmps : Array Value) (h6 : tmps.getD 6 undef = .pointer (some ⟨w.heap.size, 0, none⟩)) (h7 : tmps.getD 7 undef = .pointer (some ⟨w.heap.size + 1, 0, none⟩))
  (hQ : ∀ w', Old w w' → Q (.returned (.tuple #[.slice none 0 0, .int .i64 5])) w') :
  Leaves Tryz.prog Tryz.f87 tmps Q [{ target := .fn (.func 119) #[.pointer (some ⟨w.heap.size, 0, none⟩), .pointer (some ⟨w.heap.size + 1, 0, none⟩)], args := #[] }] (.panicking fault) wd := by
 obtain ⟨y0, hx⟩ := hx
 obtain ⟨n, he⟩ := he
 refine leaves_cons (f := 119) (args := #[.pointer (some ⟨w.heap.size, 0, none⟩), .pointer (some ⟨w.heap.size + 1, 0, none⟩)]) (by simp) (by simp [go_sem]) ?_
 refine (tk_pd_panic _ _ _ n wd hx he (by omega)).mono ?_
 rintro e u' w'' ⟨rfl, rfl, q1, q2, k2⟩
 have hr := pd_results tmps _ _ _ _ w'' h6 h7 (blk1 q1).1 (blk1 q2).1
 have hq := hQ w'' (hk.then k2 (fun i hi e => by omega))
 simp [Leaves, settle]
 exact ⟨_, hr, hq⟩
theorem pd_door_ok {w wd : World} {Q : Ending → World → Prop} (y0 : Value) (hx : wd.heap[w.heap.size]? = some (.cells #[y0] 24 (0, 0))) (he : wd.heap[w.heap.size + 1]? = some (.cells #[.int .i64 0] 39 (0, 0))) (tmps : Array Value) (h6 : tmps.getD 6 undef = .pointer (some ⟨w.heap.size, 0, none⟩)) (h7 : tmps.getD 7 undef = .pointer (some ⟨w.heap.size + 1, 0, none⟩))
  (hQ : Q (.returned (.tuple #[y0, .int .i64 0])) wd) :
  Leaves Tryz.prog Tryz.f87 tmps Q [{ target := .fn (.func 119) #[.pointer (some ⟨w.heap.size, 0, none⟩), .pointer (some ⟨w.heap.size + 1, 0, none⟩)], args := #[] }] .returning wd := by
 refine leaves_cons (f := 119) (args := #[.pointer (some ⟨w.heap.size, 0, none⟩), .pointer (some ⟨w.heap.size + 1, 0, none⟩)]) (by simp) (by simp [go_sem]) ?_
 refine (tk_pd_idle _ _ wd).mono ?_
 rintro e u' w'' ⟨rfl, rfl, rfl⟩
 have hr := pd_results tmps _ _ y0 _ w'' h6 h7 (blk1 hx).1 (blk1 he).1
 exact ⟨_, hr, hQ⟩
theorem taken_pd_any (v : Value) (l : List UInt8) (w : World) (h : Sees w v l) (hl : l.length ≤ 1000000000) :
  Calls Tryz.prog 87 #[v, .func (.func 88) #[] #[], .func (.func 30) #[] #[]] w (TkP w (takeP l)) := by
 have hmf : ∀ (fn : Fn) (first cap : Array Value) (w : World), (Instr.makeFunc fn first cap).run Tryz.prog w = .ok (.func fn first cap) w := fun _ _ _ _ => rfl
 obtain ⟨pv, cv, rfl, _, _⟩ := h.len
 obtain ⟨W0, hW0⟩ : ∃ W0, (w.alloc (.cells #[.slice none 0 0] 24)).alloc (.cells #[.int .i64 0] 39) = W0 := ⟨_, rfl⟩
 have k0 : Old w W0 := by rw [← hW0]; exact ((Keeps.refl _ _).alloc _).alloc _
 have hb := two_blocks w (.cells #[.slice none 0 0] 24) (.cells #[.int .i64 0] 39)
 rw [hW0] at hb
 have hs0 := h.old k0
 have HNew := Lib.hid (new_any _ l W0 hs0 hl)
 have HB := Lib.hid hb
 have HK := Lib.hid k0
 have HS := Lib.hid h
 have hsz : w.heap.size + 1 < W0.heap.size := lt_of_heap hb.2
 have hent1 : ∀ (args : Array Value) (w : World), (callFunc 88 args).run Tryz.prog w = .ok (.enter 88 args) w := fun args W => by simp [go_sem, callFunc, Tryz.func88]; rfl
 have hent2 : ∀ (args : Array Value) (w : World), (callFunc 30 args).run Tryz.prog w = .ok (.enter 30 args) w := fun args W => by simp [go_sem, callFunc, Tryz.func30]; rfl
 clear hb hs0 k0 h
 go_enter_defers Tryz.func87, Tryz.ntmps87
 go_wp2_with fail
 refine HNew.out.mono ?_
 rintro e w1 ⟨rb, bb, rfl, hR1, hrb, hbb, k1⟩
 have HE := Lib.hid (cpred_any w1.heap.size rb bb l w1 hR1)
 have K1 := Lib.hid k1
 clear hR1 k1 HNew
 go_wp2_with fail
 refine HE.out.mono ?_
 intro e w2 ht
 clear HE
 cases hp : pPred l with
 | none =>
  rw [hp] at ht
  obtain ⟨rfl, hbad⟩ : e = .panicked fault ∧ Bad w1 w1.heap.size rb bb w2 := ht
  have hk2 : Old W0 w2 := K1.out.then hbad.2 (fun i hi e => by omega)
  have R := Lib.hid (And.intro ((hk2.block _ (lt_of_heap HB.out.1) (fun f => f)).trans HB.out.1) (And.intro ((hk2.block _ (lt_of_heap HB.out.2) (fun f => f)).trans HB.out.2) (HK.out.trans hk2)))
  have er : takeP l = none := by unfold takeP; rw [hp]; rfl
  have HER := Lib.hid er
  clear hbad hk2 er hp
  go_wp2_with fail
  exact pd_door_bad ⟨_, R.out.1⟩ ⟨_, R.out.2.1⟩ R.out.2.2 _ rfl rfl (fun w' h => TkP.no HER.out h)
 | some x =>
  obtain ⟨cs, r⟩ := x
  rw [hp] at ht
  obtain ⟨⟨p', n', c', s', rfl, hs', ho⟩, hR2, k2⟩ : (∃ p n c s', e = .returned (.slice p n c) ∧ List.map Con.plain s' = cs ∧ OwnN w2 w1.heap.size 72 7 Con.cells Con.sv ConF (.slice p n c) s') ∧ Rd w2 w1.heap.size rb bb r ∧ RK rb w1 w2 := ht
  obtain ⟨hfit, hinv⟩ := pPred_inv hp
  have er : takeP l = if okP cs && decide (r = []) then some cs else none := by unfold takeP; rw [hp]; rfl
  have hk2 : Old W0 w2 := K1.out.then k2 (fun i hi e => by omega)
  have b0 := (hk2.block _ (lt_of_heap HB.out.1) (fun f => f)).trans HB.out.1
  have b1 := (hk2.block _ (lt_of_heap HB.out.2) (fun f => f)).trans HB.out.2
  have g0 := blk1 b0
  have hl0 := lt_of_heap b0
  have hl1 := lt_of_heap b1
  obtain ⟨W2, hW2⟩ : ∃ W2, (w2.setCell ⟨w.heap.size, 0, none⟩ (.slice p' n' c')) = W2 := ⟨_, rfl⟩
  have c0 := set1 (a0 := .slice p' n' c') b0
  have kc := keep1 (a0 := .slice p' n' c') w2 w.heap.size
  rw [hW2] at c0 kc
  have c1 := (kc.block _ hl1 (by omega)).trans b1
  have ho2 := OwnN.keeps conF_k (ho) kc (fun b hb1 hb2 e => by have := K1.out.size; omega)
  have ha := ho2.1.sees (fun _ => rfl) (by decide)
  have hbl : 0 < s'.length → ∀ k, (Value.slice p' n' c').ownBlock = some k → k < W2.heap.size := fun _ k hk => (ho2.1.block k hk).2
  have hkw : Old w W2 := (HK.out.trans hk2).then kc (fun i hi e => by omega)
  have hcn : Cons W2 (.slice p' n' c') s' := ⟨ha, fun y hy => by
   have hg := hfit y.plain (by rw [← hs']; exact List.mem_map_of_mem hy)
   have hb := hg.1
   exact ⟨(ho2.2 y hy).1, ⟨by have : y.name.size ≤ 16 := hb; omega, hg.2.1⟩, hg.2.2, fun _ b hb' => ((ho2.2 y hy).2 b hb').2.1⟩⟩
  have hpk : predOk s' = okP cs := by rw [predOk_plain, hs']
  have HW2 := Lib.hid hW2
  have HC := Lib.hid (And.intro c0 (And.intro c1 (And.intro hkw ho2)))
  have hw1 := K1.out.size
  cases hok : okP cs with
  | false =>
   have HP0 : Calls Tryz.prog 30 #[.slice p' n' c'] W2 (fun e w' => e = .returned (.tuple #[.slice none 0 0, .int .i64 30]) ∧ Old W2 w') := (put_pred_no_any _ s' W2 hcn (hpk.trans hok))
   have HP := Lib.hid HP0
   clear HP0
   rw [hok] at er
   have HER := Lib.hid (show takeP l = none from er)
   clear hcn hpk
   clear ho hR2 k2 hk2 b0 b1 c0 kc c1 ho2 ha hbl hkw hW2 hinv hfit er hp hok
   go_wp2_with fail
   rw [HW2.out]
   refine HP.out.mono ?_
   rintro e w3 ⟨rfl, k3⟩
   have R := Lib.hid (And.intro ((k3.block _ (lt_of_heap HC.out.1) (fun f => f)).trans HC.out.1) (And.intro ((k3.block _ (lt_of_heap HC.out.2.1) (fun f => f)).trans HC.out.2.1) (HC.out.2.2.1.trans k3)))
   clear k3
   go_wp2_with fail
   exact pd_door_bad ⟨_, R.out.1⟩ ⟨_, R.out.2.1⟩ R.out.2.2 _ rfl rfl (fun w' h => TkP.no HER.out h)
  | true =>
   have HP0 : Calls Tryz.prog 30 #[.slice p' n' c'] W2 (Formed W2 (predForm cs)) := (hs' ▸ put_pred_any _ s' W2 hcn hbl (hpk.trans hok))
   have HP := Lib.hid HP0
   clear HP0
   have hform := hinv hok
   have HF := Lib.hid hform
   rw [hok] at er
   have HER := Lib.hid (show takeP l = if decide (r = []) then some cs else none from by simpa using er)
   have HSS := Lib.hid hs'
   clear hcn hpk
   clear hs' ho hR2 k2 hk2 b0 b1 c0 kc c1 ho2 ha hbl hkw hW2 hinv hfit er hp hok hform
   go_wp2_with fail
   rw [HW2.out]
   refine HP.out.mono ?_
   rintro e w3 ⟨p3, n3, c3, rfl, ho3, k3⟩
   have d0 := (k3.block _ (lt_of_heap HC.out.1) (fun f => f)).trans HC.out.1
   have d1 := (k3.block _ (lt_of_heap HC.out.2.1) (fun f => f)).trans HC.out.2.1
   have g3 := blk1 d0
   have g4 := blk1 d1
   have R := Lib.hid (And.intro d0 (And.intro d1 (And.intro (HC.out.2.2.1.trans k3) (OwnN.keeps conF_k HC.out.2.2.2 k3 (fun _ _ _ f => f)))))
   have EQ := Lib.hid (equal_any _ _ _ _ w3 ho3.sees (HS.out.old (HC.out.2.2.1.trans k3)))
   clear k3 ho3 d0 d1
   by_cases hr : r = []
   ·have hb : (predForm cs == l) = true := by rw [HF.out, hr]; simp
    rw [hb] at EQ
    have HR := Lib.hid hr
    clear hb hr HF
    go_wp2_with fail
    refine EQ.out.mono ?_
    rintro e w4 ⟨rfl, rfl⟩
    go_wp2_with fail
    have q1 := set1 (a0 := .slice p' n' c') R.out.1
    have k4 := keep1 (a0 := .slice p' n' c') w3 w.heap.size
    have q2 := (heap_setCell_other (w3.setCell ⟨w.heap.size, 0, none⟩ (.slice p' n' c')) ⟨w.heap.size + 1, 0, none⟩ w.heap.size (.int .i64 0) (by simp)).trans q1
    have q3 := heap_setCell_same (w3.setCell ⟨w.heap.size, 0, none⟩ (.slice p' n' c')) (w.heap.size + 1) 0 _ _ (.int .i64 0) ((k4.block _ (lt_of_heap R.out.2.1) (by omega)).trans R.out.2.1)
    have k5 : Keeps (fun k => k = w.heap.size ∨ k = w.heap.size + 1) w3 (w3.setCell ⟨w.heap.size, 0, none⟩ (.slice p' n' c')) := k4.weaken (fun i _ e => Or.inl e)
    have k6 := k5.setCell (p := ⟨w.heap.size + 1, 0, none⟩) (fun _ => Or.inr rfl) (.int .i64 0)
    have ho9 := OwnN.keeps conF_k (R.out.2.2.2) k6 (fun b hb1 hb2 e => by omega)
    exact pd_door_ok _ q2 (by simpa using q3) _ rfl rfl (TkP.yes (by rw [HER.out, if_pos (by simpa using HR.out)]) (R.out.2.2.1.then k6 (fun i hi e => by omega)) HSS.out (ho9.mono (by omega)))
   ·have hb : (predForm cs == l) = false := by
     rw [HF.out]
     refine beq_eq_false_iff_ne.2 (fun e => hr ?_)
     simpa using e
    rw [hb] at EQ
    have HR := Lib.hid hr
    clear hb hr HF
    go_wp2_with fail
    refine EQ.out.mono ?_
    rintro e w4 ⟨rfl, rfl⟩
    go_wp2_with fail
    exact pd_door_bad ⟨_, R.out.1⟩ ⟨_, R.out.2.1⟩ R.out.2.2.1 _ rfl rfl (fun w' h => TkP.no (by rw [HER.out, if_neg (by simpa using HR.out)]) h)
end
end Go.Proofs.YtpjpimahnnekkaaGreat
