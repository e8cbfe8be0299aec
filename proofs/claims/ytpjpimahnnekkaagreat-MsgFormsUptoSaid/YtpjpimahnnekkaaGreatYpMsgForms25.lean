/- DERIVED. codec.TakePage. · DERIVED. codec.TakeItem, TakePred, TakePage. -/
import Derived.Test.YtpjpimahnnekkaaGreatYpMsgForms23
import Derived.Test.YtpjpimahnnekkaaGreatYpMsgForms24
import Derived.Test.YtpjpimahnnekkaaGreatYpMsgForms18
import Derived.Test.YtpjpimahnnekkaaGreatYpMsgForms22
import Derived.Deep.DeepCutAuto
set_option maxRecDepth 100000
set_option maxHeartbeats 4000000
namespace Go.Proofs.YtpjpimahnnekkaaGreat
section
open Go.RowKit
theorem cpage_any (B rb bb : Nat) (l : List UInt8) (w : World) (h : Rd w B rb bb l) : Calls Tryz.prog 92 #[rdV rb] w (PgPost w B rb bb (pPage l)) := by
 unfold pPage
 cases hp : pNum 1099511627777 l with
 | none => exact cpage_no1 B rb bb l w h hp
 | some a =>
  obtain ⟨fr, l1⟩ := a
  simp only [Option.bind_some]
  cases hq : pNum 1099511627777 l1 with
  | none => exact cpage_no2 B rb bb l w h fr l1 hp hq
  | some b => exact cpage_yes2 B rb bb l w h fr b.1 l1 b.2 hp hq
def takeG (l : List UInt8) : Option (PPg) := (pPage l).bind fun x => if pgOk x.1 && decide (x.2 = []) then some x.1 else none
def TkG (w : World) (res : Option (PPg)) (e : Ending) (w' : World) : Prop :=
 Old w w' ∧ match res with
 | some x => ∃ p n c pg ng cg s', e = .returned (.tuple #[.agg #[.int .u64 x.fr, .int .u64 x.en, .slice p n c, .slice pg ng cg, .bool x.last], .int .i64 0]) ∧ List.map It.plain s' = x.items ∧ OwnN w' w.heap.size 29 4 It.cells It.av ItF (.slice p n c) s' ∧ OwnsR w' w.heap.size 121 2 gapL (.slice pg ng cg) x.gaps
 | none => e = .returned (.tuple #[.agg #[.int .u64 0, .int .u64 0, .slice none 0 0, .slice none 0 0, .bool false], .int .i64 5])
theorem TkG.no {w w' : World} {res : Option (PPg)} (h : res = none) (k : Old w w') : TkG w res (.returned (.tuple #[.agg #[.int .u64 0, .int .u64 0, .slice none 0 0, .slice none 0 0, .bool false], .int .i64 5])) w' := by subst h; exact ⟨k, rfl⟩
theorem TkG.yes {w w' : World} {res : Option (PPg)} {fr en : Nat} {its : List PIt} {gps : List PGap} {last : Bool} {pg : Option Addr} {ng cg : Nat} {s' : List It} {p : Option Addr} {n c : Nat} (h : res = some (⟨fr, en, its, gps, last⟩ : PPg)) (k : Old w w') (hs : s'.map It.plain = its) (ho : OwnN w' w.heap.size 29 4 It.cells It.av ItF (.slice p n c) s' ∧ OwnsR w' w.heap.size 121 2 gapL (.slice pg ng cg) gps) : TkG w res (.returned (.tuple #[.agg #[.int .u64 fr, .int .u64 en, .slice p n c, .slice pg ng cg, .bool last], .int .i64 0])) w' := by subst h; exact ⟨k, p, n, c, pg, ng, cg, s', rfl, hs, ho⟩
theorem tk_pg_panic (xb eb : Nat) (x0 x1 x2 x3 x4 : Value) (n : Int) (w : World) (hx : w.heap[xb]? = some (.cells #[x0, x1, x2, x3, x4] 35 (0, 0))) (he : w.heap[eb]? = some (.cells #[.int .i64 n] 39 (0, 0))) (hne : xb ≠ eb) :
  CallsD Tryz.prog 126 #[.pointer (some ⟨xb, 0, none⟩), .pointer (some ⟨eb, 0, none⟩)] (.panicking fault) w fun e u' w' =>
   e = .returned (.tuple #[]) ∧ u' = .panicking [{ v := .iface 181 (.agg #[]), recovered := true }] ∧ w'.heap[xb]? = some (.cells #[.int .u64 0, .int .u64 0, .slice none 0 0, .slice none 0 0, .bool false] 35 (0, 0)) ∧ w'.heap[eb]? = some (.cells #[.int .i64 5] 39 (0, 0)) ∧ Keeps (fun k => k = xb ∨ k = eb) w w' := by
 have hta : ∀ w, (Instr.typeAssert (.iface 181 (.agg #[])) 20 181 true).run Tryz.prog w = .ok (.tuple #[.agg #[], .bool true]) w := fun _ => by kernel_rfl
 have g1 := blk5 hx
 have g2 := blk1 he
 have l1 := lt_of_heap hx
 have l2 := lt_of_heap he
 have n1 : xb ≠ w.heap.size := by omega
 have n2 : eb ≠ w.heap.size := by omega
 have hne' : eb ≠ xb := Ne.symm hne
 have HX := Lib.hid (And.intro hx he)
 clear hx he
 refine callsD_of_wpS Tryz.func126 rfl fun c₀ cs hu => ?_
 apply wpS_seq
 apply wpS_region
 simp [wpOpsS, go_sem, recoverD, hu, Tryz.ntmps126, Exit.thenS]
 refine wpS_of_wp ?_
 go_wp2_with fail
 have q1 := set5 (a0 := .int .u64 0) (a1 := .int .u64 0) (a2 := .slice none 0 0) (a3 := .slice none 0 0) (a4 := .bool false) HX.out.1
 have q2 := (heap_setCell_other (((((w.setCell ⟨xb, 0, none⟩ (.int .u64 0)).setCell ⟨xb, 1, none⟩ (.int .u64 0)).setCell ⟨xb, 2, none⟩ (.slice none 0 0)).setCell ⟨xb, 3, none⟩ (.slice none 0 0)).setCell ⟨xb, 4, none⟩ (.bool false)) ⟨eb, 0, none⟩ xb (.int .i64 5) hne).trans q1
 have k1 := keep5 (a0 := .int .u64 0) (a1 := .int .u64 0) (a2 := .slice none 0 0) (a3 := .slice none 0 0) (a4 := .bool false) w xb
 have q3 := heap_setCell_same (((((w.setCell ⟨xb, 0, none⟩ (.int .u64 0)).setCell ⟨xb, 1, none⟩ (.int .u64 0)).setCell ⟨xb, 2, none⟩ (.slice none 0 0)).setCell ⟨xb, 3, none⟩ (.slice none 0 0)).setCell ⟨xb, 4, none⟩ (.bool false)) eb 0 _ _ (.int .i64 5) ((k1.block eb l2 hne').trans HX.out.2)
 have k2 : Keeps (fun k => k = xb ∨ k = eb) w (((((w.setCell ⟨xb, 0, none⟩ (.int .u64 0)).setCell ⟨xb, 1, none⟩ (.int .u64 0)).setCell ⟨xb, 2, none⟩ (.slice none 0 0)).setCell ⟨xb, 3, none⟩ (.slice none 0 0)).setCell ⟨xb, 4, none⟩ (.bool false)) := k1.weaken (fun i _ e => Or.inl e)
 have k3 := k2.setCell (p := ⟨eb, 0, none⟩) (fun _ => Or.inr rfl) (.int .i64 5)
 refine ⟨rfl, _, rfl, .tuple #[], by simp [results, Tryz.results126, go_sem], rfl, rfl, ?_, ?_, ?_⟩
 ·rw [heap_alloc_old _ _ (by simpa using l1)]; exact q2
 ·rw [heap_alloc_old _ _ (by simpa using l2)]; simpa using q3
 ·exact k3.alloc _
theorem tk_pg_idle (xb eb : Nat) (w : World) :
  CallsD Tryz.prog 126 #[.pointer (some ⟨xb, 0, none⟩), .pointer (some ⟨eb, 0, none⟩)] .returning w fun e u' w' => e = .returned (.tuple #[]) ∧ u' = .returning ∧ w' = w := by
 refine callsD_of_wpS Tryz.func126 rfl fun c₀ cs hu => ?_
 apply wpS_seq
 apply wpS_region
 simp [wpOpsS, go_sem, recoverD, hu, Tryz.ntmps126, Exit.thenS]
 refine wpS_of_wp ?_
 go_wp2_with fail
 cases c₀
 simp_all [bodyPostS, results, Tryz.results126, go_sem]
theorem pg_results (tmps : Array Value) (xb eb : Nat) (y0 y1 y2 y3 y4 : Value) (n : Int) (w : World) (h6 : tmps.getD 6 undef = .pointer (some ⟨xb, 0, none⟩)) (h7 : tmps.getD 7 undef = .pointer (some ⟨eb, 0, none⟩)) (c0 : w.cell? ⟨xb, 0, none⟩ = some y0) (c1 : w.cell? ⟨xb, 1, none⟩ = some y1) (c2 : w.cell? ⟨xb, 2, none⟩ = some y2) (c3 : w.cell? ⟨xb, 3, none⟩ = some y3) (c4 : w.cell? ⟨xb, 4, none⟩ = some y4) (hn : w.cell? ⟨eb, 0, none⟩ = some (.int .i64 n)) :
  (results Tryz.f91 tmps).run Tryz.prog w = .ok (.tuple #[.agg #[y0, y1, y2, y3, y4], .int .i64 n]) w := by
 simp only [Array.getD_eq_getD_getElem?] at h6 h7
 simp [results, Tryz.results91, go_sem, h6, h7, c0, c1, c2, c3, c4, hn]
theorem pg_door_bad {w wd : World} {Q : Ending → World → Prop} (hx : ∃ y0 y1 y2 y3 y4, wd.heap[w.heap.size]? = some (.cells #[y0, y1, y2, y3, y4] 35 (0, 0))) (he : ∃ n : Int, wd.heap[w.heap.size + 1]? = some (.cells #[.int .i64 n] 39 (0, 0))) (hk : Old w wd) (tmps : Array Value) (h6 : tmps.getD 6 undef = .pointer (some ⟨w.heap.size, 0, none⟩)) (h7 : tmps.getD 7 undef = .pointer (some ⟨w.heap.size + 1, 0, none⟩))
  (hQ : ∀ w', Old w w' → Q (.returned (.tuple #[.agg #[.int .u64 0, .int .u64 0, .slice none 0 0, .slice none 0 0, .bool false], .int .i64 5])) w') :
  Leaves Tryz.prog Tryz.f91 tmps Q [{ target := .fn (.func 126) #[.pointer (some ⟨w.heap.size, 0, none⟩), .pointer (some ⟨w.heap.size + 1, 0, none⟩)], args := #[] }] (.panicking fault) wd := by
 obtain ⟨y0, y1, y2, y3, y4, hx⟩ := hx
 obtain ⟨n, he⟩ := he
 refine leaves_cons (f := 126) (args := #[.pointer (some ⟨w.heap.size, 0, none⟩), .pointer (some ⟨w.heap.size + 1, 0, none⟩)]) (by simp) (by simp [go_sem]) ?_
 refine (tk_pg_panic _ _ _ _ _ _ _ n wd hx he (by omega)).mono ?_
 rintro e u' w'' ⟨rfl, rfl, q1, q2, k2⟩
 have hr := pg_results tmps _ _ _ _ _ _ _ _ w'' h6 h7 (blk5 q1).1.1 (blk5 q1).1.2.1 (blk5 q1).1.2.2.1 (blk5 q1).1.2.2.2.1 (blk5 q1).1.2.2.2.2 (blk1 q2).1
 have hq := hQ w'' (hk.then k2 (fun i hi e => by omega))
 simp [Leaves, settle]
 exact ⟨_, hr, hq⟩
theorem pg_door_ok {w wd : World} {Q : Ending → World → Prop} (y0 y1 y2 y3 y4 : Value) (hx : wd.heap[w.heap.size]? = some (.cells #[y0, y1, y2, y3, y4] 35 (0, 0))) (he : wd.heap[w.heap.size + 1]? = some (.cells #[.int .i64 0] 39 (0, 0))) (tmps : Array Value) (h6 : tmps.getD 6 undef = .pointer (some ⟨w.heap.size, 0, none⟩)) (h7 : tmps.getD 7 undef = .pointer (some ⟨w.heap.size + 1, 0, none⟩))
  (hQ : Q (.returned (.tuple #[.agg #[y0, y1, y2, y3, y4], .int .i64 0])) wd) :
  Leaves Tryz.prog Tryz.f91 tmps Q [{ target := .fn (.func 126) #[.pointer (some ⟨w.heap.size, 0, none⟩), .pointer (some ⟨w.heap.size + 1, 0, none⟩)], args := #[] }] .returning wd := by
 refine leaves_cons (f := 126) (args := #[.pointer (some ⟨w.heap.size, 0, none⟩), .pointer (some ⟨w.heap.size + 1, 0, none⟩)]) (by simp) (by simp [go_sem]) ?_
 refine (tk_pg_idle _ _ wd).mono ?_
 rintro e u' w'' ⟨rfl, rfl, rfl⟩
 have hr := pg_results tmps _ _ y0 y1 y2 y3 y4 _ w'' h6 h7 (blk5 hx).1.1 (blk5 hx).1.2.1 (blk5 hx).1.2.2.1 (blk5 hx).1.2.2.2.1 (blk5 hx).1.2.2.2.2 (blk1 he).1
 exact ⟨_, hr, hQ⟩
theorem taken_pg_any (v : Value) (l : List UInt8) (w : World) (h : Sees w v l) (hl : l.length ≤ 1000000000) :
  Calls Tryz.prog 91 #[v, .func (.func 92) #[] #[], .func (.func 32) #[] #[]] w (TkG w (takeG l)) := by
 have hmf : ∀ (fn : Fn) (first cap : Array Value) (w : World), (Instr.makeFunc fn first cap).run Tryz.prog w = .ok (.func fn first cap) w := fun _ _ _ _ => rfl
 obtain ⟨pv, cv, rfl, _, _⟩ := h.len
 obtain ⟨W0, hW0⟩ : ∃ W0, (w.alloc (.cells #[.int .u64 0, .int .u64 0, .slice none 0 0, .slice none 0 0, .bool false] 35)).alloc (.cells #[.int .i64 0] 39) = W0 := ⟨_, rfl⟩
 have k0 : Old w W0 := by rw [← hW0]; exact ((Keeps.refl _ _).alloc _).alloc _
 have hb := two_blocks w (.cells #[.int .u64 0, .int .u64 0, .slice none 0 0, .slice none 0 0, .bool false] 35) (.cells #[.int .i64 0] 39)
 rw [hW0] at hb
 have hs0 := h.old k0
 have HNew := Lib.hid (new_any _ l W0 hs0 hl)
 have HB := Lib.hid hb
 have HK := Lib.hid k0
 have HS := Lib.hid h
 have hsz : w.heap.size + 1 < W0.heap.size := lt_of_heap hb.2
 have hent1 : ∀ (args : Array Value) (w : World), (callFunc 92 args).run Tryz.prog w = .ok (.enter 92 args) w := fun args W => by simp [go_sem, callFunc, Tryz.func92]; rfl
 have hent2 : ∀ (args : Array Value) (w : World), (callFunc 32 args).run Tryz.prog w = .ok (.enter 32 args) w := fun args W => by simp [go_sem, callFunc, Tryz.func32]; rfl
 clear hb hs0 k0 h
 go_enter_defers Tryz.func91, Tryz.ntmps91
 go_wp2_with fail
 refine HNew.out.mono ?_
 rintro e w1 ⟨rb, bb, rfl, hR1, hrb, hbb, k1⟩
 have HE := Lib.hid (cpage_any w1.heap.size rb bb l w1 hR1)
 have K1 := Lib.hid k1
 clear hR1 k1 HNew
 go_wp2_with fail
 refine HE.out.mono ?_
 intro e w2 ht
 clear HE
 cases hp : pPage l with
 | none =>
  rw [hp] at ht
  obtain ⟨rfl, hbad⟩ : e = .panicked fault ∧ Bad w1 w1.heap.size rb bb w2 := ht
  have hk2 : Old W0 w2 := K1.out.then hbad.2 (fun i hi e => by omega)
  have R := Lib.hid (And.intro ((hk2.block _ (lt_of_heap HB.out.1) (fun f => f)).trans HB.out.1) (And.intro ((hk2.block _ (lt_of_heap HB.out.2) (fun f => f)).trans HB.out.2) (HK.out.trans hk2)))
  have er : takeG l = none := by unfold takeG; rw [hp]; rfl
  have HER := Lib.hid er
  clear hbad hk2 er hp
  go_wp2_with fail
  exact pg_door_bad ⟨_, _, _, _, _, R.out.1⟩ ⟨_, R.out.2.1⟩ R.out.2.2 _ rfl rfl (fun w' h => TkG.no HER.out h)
 | some x =>
  obtain ⟨⟨fr, en, its, gps, last⟩, r⟩ := x
  rw [hp] at ht
  obtain ⟨⟨p', n', c', pg, ng, cg, s', rfl, hs', ho⟩, hR2, k2⟩ : (∃ p n c pg ng cg s', e = .returned (.agg #[.int .u64 fr, .int .u64 en, .slice p n c, .slice pg ng cg, .bool last]) ∧ List.map It.plain s' = its ∧ OwnN w2 w1.heap.size 29 4 It.cells It.av ItF (.slice p n c) s' ∧ OwnsR w2 w1.heap.size 121 2 gapL (.slice pg ng cg) gps) ∧ Rd w2 w1.heap.size rb bb r ∧ RK rb w1 w2 := ht
  obtain ⟨hb1, hfit, hgf, hinv⟩ := pPage_inv hp
  simp only at hb1 hfit hgf
  have er : takeG l = if pgOk (⟨fr, en, its, gps, last⟩ : PPg) && decide (r = []) then some (⟨fr, en, its, gps, last⟩ : PPg) else none := by unfold takeG; rw [hp]; rfl
  have hk2 : Old W0 w2 := K1.out.then k2 (fun i hi e => by omega)
  have b0 := (hk2.block _ (lt_of_heap HB.out.1) (fun f => f)).trans HB.out.1
  have b1 := (hk2.block _ (lt_of_heap HB.out.2) (fun f => f)).trans HB.out.2
  have g0 := blk5 b0
  have hl0 := lt_of_heap b0
  have hl1 := lt_of_heap b1
  obtain ⟨W2, hW2⟩ : ∃ W2, (((((w2.setCell ⟨w.heap.size, 0, none⟩ (.int .u64 fr)).setCell ⟨w.heap.size, 1, none⟩ (.int .u64 en)).setCell ⟨w.heap.size, 2, none⟩ (.slice p' n' c')).setCell ⟨w.heap.size, 3, none⟩ (.slice pg ng cg)).setCell ⟨w.heap.size, 4, none⟩ (.bool last)) = W2 := ⟨_, rfl⟩
  have c0 := set5 (a0 := .int .u64 fr) (a1 := .int .u64 en) (a2 := .slice p' n' c') (a3 := .slice pg ng cg) (a4 := .bool last) b0
  have kc := keep5 (a0 := .int .u64 fr) (a1 := .int .u64 en) (a2 := .slice p' n' c') (a3 := .slice pg ng cg) (a4 := .bool last) w2 w.heap.size
  rw [hW2] at c0 kc
  have c1 := (kc.block _ hl1 (by omega)).trans b1
  have ho2 := And.intro (OwnN.keeps itF_k ho.1 kc (fun b hb1 hb2 e => by have := K1.out.size; omega)) (ho.2.keeps kc (fun b hb e => by have := (ho.2.block b hb).1; have := K1.out.size; omega))
  have ha := ho2.1.1.sees (fun _ => rfl) (by decide)
  have hbl : 0 < s'.length → ∀ k, (Value.slice p' n' c').ownBlock = some k → k < W2.heap.size := fun _ k hk => (ho2.1.1.block k hk).2
  have hkw : Old w W2 := (HK.out.trans hk2).then kc (fun i hi e => by omega)
  have hpf : (⟨fr, en, .slice p' n' c', s', .slice pg ng cg, gps, last⟩ : Pg).fine W2 := ⟨⟨ha, fun y hy => by
    have hg := hfit y.plain (by rw [← hs']; exact List.mem_map_of_mem hy)
    have g1 : y.n ≤ 1099511627776 := hg.2.1
    have g2 : y.time ≤ 1099511627776 := hg.2.2
    exact ⟨(ho2.1.2 y hy).1, fun _ k hk => ((ho2.1.2 y hy).2 k hk).2.1, hg.1, by omega, by omega⟩, ho2.2.sees (fun _ => rfl) (by decide)⟩, fun g hg => by have := hgf g hg; omega, ⟨by simp only; omega, by simp only; omega⟩, hbl, fun _ b hb => (ho2.2.block b hb).2⟩
  have hpk : Pg.plain (⟨fr, en, .slice p' n' c', s', .slice pg ng cg, gps, last⟩ : Pg) = (⟨fr, en, its, gps, last⟩ : PPg) := by unfold Pg.plain; simp only; rw [hs']
  have HW2 := Lib.hid hW2
  have HC := Lib.hid (And.intro c0 (And.intro c1 (And.intro hkw ho2)))
  have hw1 := K1.out.size
  cases hok : pgOk (⟨fr, en, its, gps, last⟩ : PPg) with
  | false =>
   have HP0 : Calls Tryz.prog 32 #[.agg #[.int .u64 fr, .int .u64 en, .slice p' n' c', .slice pg ng cg, .bool last]] W2 (fun e w' => e = .returned (.tuple #[.slice none 0 0, .int .i64 30]) ∧ Old W2 w') := (put_page_no_any (⟨fr, en, .slice p' n' c', s', .slice pg ng cg, gps, last⟩ : Pg) W2 hpf (by rw [hpk]; exact hok))
   have HP := Lib.hid HP0
   clear HP0
   rw [hok] at er
   have HER := Lib.hid (show takeG l = none from er)
   clear hpf hpk hb1 hgf
   clear ho hR2 k2 hk2 b0 b1 c0 kc c1 ho2 ha hbl hkw hW2 hinv hfit er hp hok
   go_wp2_with fail
   rw [HW2.out]
   refine HP.out.mono ?_
   rintro e w3 ⟨rfl, k3⟩
   have R := Lib.hid (And.intro ((k3.block _ (lt_of_heap HC.out.1) (fun f => f)).trans HC.out.1) (And.intro ((k3.block _ (lt_of_heap HC.out.2.1) (fun f => f)).trans HC.out.2.1) (HC.out.2.2.1.trans k3)))
   clear k3
   go_wp2_with fail
   exact pg_door_bad ⟨_, _, _, _, _, R.out.1⟩ ⟨_, R.out.2.1⟩ R.out.2.2 _ rfl rfl (fun w' h => TkG.no HER.out h)
  | true =>
   have HP0 : Calls Tryz.prog 32 #[.agg #[.int .u64 fr, .int .u64 en, .slice p' n' c', .slice pg ng cg, .bool last]] W2 (Formed W2 (pageForm (⟨fr, en, its, gps, last⟩ : PPg))) := (by have q := put_page_any (⟨fr, en, .slice p' n' c', s', .slice pg ng cg, gps, last⟩ : Pg) W2 hpf (by rw [hpk]; exact hok); rw [hpk] at q; exact q)
   have HP := Lib.hid HP0
   clear HP0
   have hform := hinv hok
   have HF := Lib.hid hform
   rw [hok] at er
   have HER := Lib.hid (show takeG l = if decide (r = []) then some (⟨fr, en, its, gps, last⟩ : PPg) else none from by simpa using er)
   have HSS := Lib.hid hs'
   clear hpf hpk hb1 hgf
   clear hs' ho hR2 k2 hk2 b0 b1 c0 kc c1 ho2 ha hbl hkw hW2 hinv hfit er hp hok hform
   go_wp2_with fail
   rw [HW2.out]
   refine HP.out.mono ?_
   rintro e w3 ⟨p3, n3, c3, rfl, ho3, k3⟩
   have d0 := (k3.block _ (lt_of_heap HC.out.1) (fun f => f)).trans HC.out.1
   have d1 := (k3.block _ (lt_of_heap HC.out.2.1) (fun f => f)).trans HC.out.2.1
   have g3 := blk5 d0
   have g4 := blk1 d1
   have R := Lib.hid (And.intro d0 (And.intro d1 (And.intro (HC.out.2.2.1.trans k3) (And.intro (OwnN.keeps itF_k HC.out.2.2.2.1 k3 (fun _ _ _ f => f)) (HC.out.2.2.2.2.old k3)))))
   have EQ := Lib.hid (equal_any _ _ _ _ w3 ho3.sees (HS.out.old (HC.out.2.2.1.trans k3)))
   clear k3 ho3 d0 d1
   by_cases hr : r = []
   ·have hb : (pageForm (⟨fr, en, its, gps, last⟩ : PPg) == l) = true := by rw [HF.out, hr]; simp
    rw [hb] at EQ
    have HR := Lib.hid hr
    clear hb hr HF
    go_wp2_with fail
    refine EQ.out.mono ?_
    rintro e w4 ⟨rfl, rfl⟩
    go_wp2_with fail
    have q1 := set5 (a0 := .int .u64 fr) (a1 := .int .u64 en) (a2 := .slice p' n' c') (a3 := .slice pg ng cg) (a4 := .bool last) R.out.1
    have k4 := keep5 (a0 := .int .u64 fr) (a1 := .int .u64 en) (a2 := .slice p' n' c') (a3 := .slice pg ng cg) (a4 := .bool last) w3 w.heap.size
    have q2 := (heap_setCell_other (((((w3.setCell ⟨w.heap.size, 0, none⟩ (.int .u64 fr)).setCell ⟨w.heap.size, 1, none⟩ (.int .u64 en)).setCell ⟨w.heap.size, 2, none⟩ (.slice p' n' c')).setCell ⟨w.heap.size, 3, none⟩ (.slice pg ng cg)).setCell ⟨w.heap.size, 4, none⟩ (.bool last)) ⟨w.heap.size + 1, 0, none⟩ w.heap.size (.int .i64 0) (by simp)).trans q1
    have q3 := heap_setCell_same (((((w3.setCell ⟨w.heap.size, 0, none⟩ (.int .u64 fr)).setCell ⟨w.heap.size, 1, none⟩ (.int .u64 en)).setCell ⟨w.heap.size, 2, none⟩ (.slice p' n' c')).setCell ⟨w.heap.size, 3, none⟩ (.slice pg ng cg)).setCell ⟨w.heap.size, 4, none⟩ (.bool last)) (w.heap.size + 1) 0 _ _ (.int .i64 0) ((k4.block _ (lt_of_heap R.out.2.1) (by omega)).trans R.out.2.1)
    have k5 : Keeps (fun k => k = w.heap.size ∨ k = w.heap.size + 1) w3 (((((w3.setCell ⟨w.heap.size, 0, none⟩ (.int .u64 fr)).setCell ⟨w.heap.size, 1, none⟩ (.int .u64 en)).setCell ⟨w.heap.size, 2, none⟩ (.slice p' n' c')).setCell ⟨w.heap.size, 3, none⟩ (.slice pg ng cg)).setCell ⟨w.heap.size, 4, none⟩ (.bool last)) := k4.weaken (fun i _ e => Or.inl e)
    have k6 := k5.setCell (p := ⟨w.heap.size + 1, 0, none⟩) (fun _ => Or.inr rfl) (.int .i64 0)
    have ho9 := And.intro (OwnN.keeps itF_k R.out.2.2.2.1 k6 (fun b hb1 hb2 e => by omega)) (R.out.2.2.2.2.keeps k6 (fun b hb e => by have := (R.out.2.2.2.2.block b hb).1; omega))
    exact pg_door_ok _ _ _ _ _ q2 (by simpa using q3) _ rfl rfl (TkG.yes (by rw [HER.out, if_pos (by simpa using HR.out)]) (R.out.2.2.1.then k6 (fun i hi e => by omega)) HSS.out ⟨ho9.1.mono (by omega), ho9.2.mono (by omega)⟩)
   ·have hb : (pageForm (⟨fr, en, its, gps, last⟩ : PPg) == l) = false := by
     rw [HF.out]
     refine beq_eq_false_iff_ne.2 (fun e => hr ?_)
     simpa using e
    rw [hb] at EQ
    have HR := Lib.hid hr
    clear hb hr HF
    go_wp2_with fail
    refine EQ.out.mono ?_
    rintro e w4 ⟨rfl, rfl⟩
    go_wp2_with fail
    exact pg_door_bad ⟨_, _, _, _, _, R.out.1⟩ ⟨_, R.out.2.1⟩ R.out.2.2.1 _ rfl rfl (fun w' h => TkG.no (by rw [HER.out, if_neg (by simpa using HR.out)]) h)
end
section
open Go.RowKit
theorem take_item_any (v : Value) (l : List UInt8) (w : World) (h : Sees w v l) (hl : l.length ≤ 1000000000) :
  Calls Tryz.prog 43 #[v] w (TkI w (takeI l)) := by
 obtain ⟨W1, hW1⟩ : ∃ W1, w.alloc (.cells #[.int .u64 0, .int .u64 0, .string ⟨#[]⟩, .slice none 0 0] 29) = W1 := ⟨_, rfl⟩
 have k1 : Old w W1 := by rw [← hW1]; exact (Keeps.refl _ _).alloc _
 have b1 : W1.heap[w.heap.size]? = some (.cells #[.int .u64 0, .int .u64 0, .string ⟨#[]⟩, .slice none 0 0] 29 (0, 0)) := by rw [← hW1]; exact heap_alloc_new _ _
 have HT := Lib.hid (taken_it_any v l W1 (h.old k1) hl)
 have H := Lib.hid (And.intro k1 b1)
 have hsz := lt_of_heap b1
 obtain ⟨res, hres⟩ : ∃ r, takeI l = r := ⟨_, rfl⟩
 rw [hres] at HT ⊢
 obtain ⟨pv, cv, rfl, _, _⟩ := h.len
 clear h hl k1 b1 hres
 go_enter Tryz.func43, Tryz.ntmps43
 go_wp2_with fail
 refine HT.out.mono ?_
 rintro e w2 ⟨k2, ht⟩
 have b2 := (k2.block _ hsz (fun f => f)).trans H.out.2
 have g2 := blk4 b2
 have kw := H.out.1.trans k2
 rcases res with _ | ⟨num, tm, key, es⟩
 ·obtain rfl : e = .returned (.tuple #[.agg #[.int .u64 0, .int .u64 0, .string ⟨#[]⟩, .slice none 0 0], .int .i64 5]) := ht
  have K := Lib.hid kw
  clear kw k2 b2 HT
  go_wp2_with fail
  refine bodyPost_ret (v := .tuple #[.agg #[.int .u64 0, .int .u64 0, .string ⟨#[]⟩, .slice none 0 0], .int .i64 5]) (by simp [results, Tryz.results43, go_sem, g2]) rfl (TkI.no rfl (K.out.then (keep4 w2 w.heap.size) (fun i hi e => by omega)))
 ·obtain ⟨p, n, c, rfl, ho⟩ : ∃ p n c, e = .returned (.tuple #[.agg #[.int .u64 num, .int .u64 tm, .string key, .slice p n c], .int .i64 0]) ∧ OwnsA w2 W1.heap.size (.slice p n c) es := ht
  have K := Lib.hid (And.intro kw ho)
  clear kw k2 b2 HT ho
  go_wp2_with fail
  refine bodyPost_ret (v := .tuple #[.agg #[.int .u64 num, .int .u64 tm, .string key, .slice p n c], .int .i64 0]) (by simp [results, Tryz.results43, go_sem, g2]) rfl (TkI.yes rfl (K.out.1.then (keep4 w2 w.heap.size) (fun i hi e => by omega)) ((K.out.2.keeps (keep4 w2 w.heap.size) (fun b hb e => by have := (K.out.2.block b hb).1; omega)).mono (by omega)))
theorem take_pred_any (v : Value) (l : List UInt8) (w : World) (h : Sees w v l) (hl : l.length ≤ 1000000000) :
  Calls Tryz.prog 41 #[v] w (TkP w (takeP l)) := by
 have HT := Lib.hid (taken_pd_any v l w h hl)
 obtain ⟨res, hres⟩ : ∃ r, takeP l = r := ⟨_, rfl⟩
 rw [hres] at HT ⊢
 obtain ⟨pv, cv, rfl, _, _⟩ := h.len
 clear h hl hres
 go_enter Tryz.func41, Tryz.ntmps41
 go_wp2_with fail
 refine HT.out.mono ?_
 rintro e w2 ⟨k2, ht⟩
 rcases res with _ | cs
 ·obtain rfl : e = .returned (.tuple #[.slice none 0 0, .int .i64 5]) := ht
  have K := Lib.hid k2
  clear k2 HT
  go_wp2_with fail
  exact bodyPost_ret (v := .tuple #[.slice none 0 0, .int .i64 5]) (by simp [results, Tryz.results41, go_sem]) rfl (TkP.no rfl K.out)
 ·obtain ⟨p, n, c, s', rfl, hs, ho⟩ : ∃ p n c s', e = .returned (.tuple #[.slice p n c, .int .i64 0]) ∧ List.map Con.plain s' = cs ∧ OwnN w2 w.heap.size 72 7 Con.cells Con.sv ConF (.slice p n c) s' := ht
  have K := Lib.hid (And.intro k2 ho)
  have HSS := Lib.hid hs
  clear k2 HT ho hs
  go_wp2_with fail
  exact bodyPost_ret (v := .tuple #[.slice p n c, .int .i64 0]) (by simp [results, Tryz.results41, go_sem]) rfl (TkP.yes rfl K.out.1 HSS.out K.out.2)
theorem take_page_any (v : Value) (l : List UInt8) (w : World) (h : Sees w v l) (hl : l.length ≤ 1000000000) :
  Calls Tryz.prog 45 #[v] w (TkG w (takeG l)) := by
 obtain ⟨W1, hW1⟩ : ∃ W1, w.alloc (.cells #[.int .u64 0, .int .u64 0, .slice none 0 0, .slice none 0 0, .bool false] 35) = W1 := ⟨_, rfl⟩
 have k1 : Old w W1 := by rw [← hW1]; exact (Keeps.refl _ _).alloc _
 have b1 : W1.heap[w.heap.size]? = some (.cells #[.int .u64 0, .int .u64 0, .slice none 0 0, .slice none 0 0, .bool false] 35 (0, 0)) := by rw [← hW1]; exact heap_alloc_new _ _
 have HT := Lib.hid (taken_pg_any v l W1 (h.old k1) hl)
 have H := Lib.hid (And.intro k1 b1)
 have hsz := lt_of_heap b1
 obtain ⟨res, hres⟩ : ∃ r, takeG l = r := ⟨_, rfl⟩
 rw [hres] at HT ⊢
 obtain ⟨pv, cv, rfl, _, _⟩ := h.len
 clear h hl k1 b1 hres
 go_enter Tryz.func45, Tryz.ntmps45
 go_wp2_with fail
 refine HT.out.mono ?_
 rintro e w2 ⟨k2, ht⟩
 have b2 := (k2.block _ hsz (fun f => f)).trans H.out.2
 have g2 := blk5 b2
 have kw := H.out.1.trans k2
 rcases res with _ | ⟨fr, en, its, gps, last⟩
 ·obtain rfl : e = .returned (.tuple #[.agg #[.int .u64 0, .int .u64 0, .slice none 0 0, .slice none 0 0, .bool false], .int .i64 5]) := ht
  have K := Lib.hid kw
  clear kw k2 b2 HT
  go_wp2_with fail
  refine bodyPost_ret (v := .tuple #[.agg #[.int .u64 0, .int .u64 0, .slice none 0 0, .slice none 0 0, .bool false], .int .i64 5]) (by simp [results, Tryz.results45, go_sem, g2]) rfl (TkG.no rfl (K.out.then (keep5 w2 w.heap.size) (fun i hi e => by omega)))
 ·obtain ⟨p, n, c, pg, ng, cg, s', rfl, hs, ho⟩ : ∃ p n c pg ng cg s', e = .returned (.tuple #[.agg #[.int .u64 fr, .int .u64 en, .slice p n c, .slice pg ng cg, .bool last], .int .i64 0]) ∧ List.map It.plain s' = its ∧ OwnN w2 W1.heap.size 29 4 It.cells It.av ItF (.slice p n c) s' ∧ OwnsR w2 W1.heap.size 121 2 gapL (.slice pg ng cg) gps := ht
  have K := Lib.hid (And.intro kw ho)
  clear kw k2 b2 HT ho
  go_wp2_with fail
  refine bodyPost_ret (v := .tuple #[.agg #[.int .u64 fr, .int .u64 en, .slice p n c, .slice pg ng cg, .bool last], .int .i64 0]) (by simp [results, Tryz.results45, go_sem, g2]) rfl (TkG.yes rfl (K.out.1.then (keep5 w2 w.heap.size) (fun i hi e => by omega)) hs ⟨OwnN.mono (OwnN.keeps itF_k K.out.2.1 (keep5 w2 w.heap.size) (fun b hb1 hb2 e => by omega)) (by omega), (K.out.2.2.keeps (keep5 w2 w.heap.size) (fun b hb e => by have := (K.out.2.2.block b hb).1; omega)).mono (by omega)⟩)
end
section
open Go.RowKit
theorem forms_law {X : Type} {p : List UInt8 → Option (X × List UInt8)} {take : List UInt8 → Option X} {F : X → List UInt8} {ok : X → Bool}
  (ht : ∀ l, take l = (p l).bind fun x => if ok x.1 && decide (x.2 = []) then some x.1 else none)
  (hi : ∀ l x r, p l = some (x, r) → ok x = true → l = F x ++ r ∧ ∀ t, p (F x ++ t) = some (x, t)) {l : List UInt8} {x : X} (h : take l = some x) :
  ok x = true ∧ l = F x ∧ (∃ r, p l = some (x, r)) ∧ (∀ c, take (l ++ [c]) = none) ∧ ∀ l' t, l = l' ++ t → t ≠ [] → take l' = none := by
 have main : ∀ {l : List UInt8} {x : X}, take l = some x → ok x = true ∧ l = F x ∧ (∃ r, p l = some (x, r)) ∧ ∀ t, p (F x ++ t) = some (x, t) := by
  intro l x h
  rw [ht] at h
  cases hp : p l with
  | none => rw [hp] at h; cases h
  | some y =>
   obtain ⟨y, r⟩ := y
   rw [hp] at h
   simp only [Option.bind_some] at h
   split at h
   ·rename_i hc
    simp only [Bool.and_eq_true, decide_eq_true_eq] at hc
    obtain rfl : y = x := by simpa using h
    obtain ⟨e, f⟩ := hi l y r hp hc.1
    exact ⟨hc.1, by rw [e, hc.2, List.append_nil], ⟨r, rfl⟩, f⟩
   ·cases h
 obtain ⟨h1, h2, h3, h4⟩ := main h
 refine ⟨h1, h2, h3, fun c => ?_, fun l' t e ht' => ?_⟩
 ·rw [ht, h2, h4]; simp
 ·cases hq : take l' with
  | none => rfl
  | some y =>
   obtain ⟨_, g2, _, g4⟩ := main hq
   have e1 := g4 t
   rw [← g2, ← e, h2] at e1
   have e2 := h4 []
   rw [List.append_nil, e1] at e2
   simp only [Option.some.injEq, Prod.mk.injEq] at e2
   exact absurd e2.2 ht'
theorem takeI_law {l : List UInt8} {x : PIt} (h : takeI l = some x) :
  itOk x = true ∧ l = itForm x ∧ (∃ r, pItem l = some (x, r)) ∧ (∀ c, takeI (l ++ [c]) = none) ∧ ∀ l' t, l = l' ++ t → t ≠ [] → takeI l' = none := forms_law (p := pItem) (take := takeI) (F := itForm) (ok := itOk) (fun _ => rfl)
 (fun _l _x _r hp hok => ⟨(pItem_inv hp).2.2.2 hok, fun t => pItem_fwd t hok (pItem_inv hp).1⟩) h
theorem takeP_law {l : List UInt8} {x : List PCon} (h : takeP l = some x) :
  okP x = true ∧ l = predForm x ∧ (∃ r, pPred l = some (x, r)) ∧ (∀ c, takeP (l ++ [c]) = none) ∧ ∀ l' t, l = l' ++ t → t ≠ [] → takeP l' = none := forms_law (p := pPred) (take := takeP) (F := predForm) (ok := okP) (fun _ => rfl)
 (fun _l _x _r hp hok => ⟨(pPred_inv hp).2 hok, fun t => pPred_fwd t hok (pPred_inv hp).1⟩) h
theorem takeG_law {l : List UInt8} {x : PPg} (h : takeG l = some x) :
  pgOk x = true ∧ l = pageForm x ∧ (∃ r, pPage l = some (x, r)) ∧ (∀ c, takeG (l ++ [c]) = none) ∧ ∀ l' t, l = l' ++ t → t ≠ [] → takeG l' = none := forms_law (p := pPage) (take := takeG) (F := pageForm) (ok := pgOk) (fun _ => rfl)
 (fun _l _x _r hp hok => ⟨(pPage_inv hp).2.2.2 hok, fun t => pPage_fwd t hok (fun y hy => ((pPage_inv hp).2.1 y hy).1) (pPage_inv hp).2.2.1⟩) h
end
section
open Go.RowKit
def PutU (ok : Bool) (F : List UInt8) (w : World) (e : Ending) (w' : World) : Prop :=
 ∃ (p : Option Addr) (c : Nat) (z : Int) (L : List UInt8), e = .returned (.tuple #[.slice p L.length c, .int .i64 z]) ∧ Old w w' ∧ Sees w' (.slice p L.length c) L ∧ ((ok = true ∧ L = F ∧ z = 0) ∨ (ok = false ∧ L = [] ∧ z = 30))
theorem PutU.yes {F : List UInt8} {w w' : World} {e : Ending} (h : Formed w F e w') : PutU true F w e w' := by
 obtain ⟨p, n, c, rfl, ho, k⟩ := h
 obtain ⟨p', c', e', _, _⟩ := ho.sees.len
 simp only [Value.slice.injEq] at e'
 obtain ⟨rfl, rfl, rfl⟩ := e'
 exact ⟨_, _, _, F, rfl, k, ho.sees, Or.inl ⟨rfl, rfl, rfl⟩⟩
theorem PutU.no {F : List UInt8} {w w' : World} {e : Ending} (h : e = .returned (.tuple #[.slice none 0 0, .int .i64 30]) ∧ Old w w') : PutU false F w e w' := by
 obtain ⟨rfl, k⟩ := h
 exact ⟨none, 0, 30, [], rfl, k, Sees.nil _, Or.inr ⟨rfl, rfl, rfl⟩⟩
def TakUP (L : List UInt8) (w : World) (e : Ending) (w' : World) : Prop :=
 ∃ (p : Option Addr) (n c : Nat) (cs : List Con) (z : Int), e = .returned (.tuple #[.slice p n c, .int .i64 z]) ∧ Old w w' ∧ Cons w' (.slice p n c) cs ∧ (0 < cs.length → ∀ k, (Value.slice p n c).ownBlock = some k → k < w'.heap.size) ∧ ((takeP L = some (cs.map Con.plain) ∧ z = 0) ∨ (takeP L = none ∧ cs = [] ∧ z = 5))
def TakUG (L : List UInt8) (w : World) (e : Ending) (w' : World) : Prop :=
 ∃ (fr en : Nat) (p : Option Addr) (n c : Nat) (its : List It) (q : Option Addr) (m d : Nat) (gs : List PGap) (last : Bool) (z : Int),
  e = .returned (.tuple #[.agg #[.int .u64 fr, .int .u64 en, .slice p n c, .slice q m d, .bool last], .int .i64 z]) ∧ Old w w' ∧
  Pg.fine w' ⟨fr, en, .slice p n c, its, .slice q m d, gs, last⟩ ∧ ((takeG L = some ⟨fr, en, its.map It.plain, gs, last⟩ ∧ z = 0) ∨ (takeG L = none ∧ fr = 0 ∧ en = 0 ∧ its = [] ∧ gs = [] ∧ last = false ∧ n = 0 ∧ m = 0 ∧ z = 5))
theorem takeI_form {x : PIt} (hok : itOk x = true) (hf : Fits x.es) : takeI (itForm x) = some x := by
 have h := pItem_fwd [] hok hf
 rw [List.append_nil] at h
 unfold takeI
 rw [h]
 simp [hok]
theorem takeP_form {cs : List PCon} (hok : okP cs = true) (hg : ∀ c ∈ cs, ConG c) : takeP (predForm cs) = some cs := by
 have h := pPred_fwd [] hok hg
 rw [List.append_nil] at h
 unfold takeP
 rw [h]
 simp [hok]
theorem consG {w : World} {v : Value} {cs : List Con} (h : Cons w v cs) (hok : okP (cs.map Con.plain) = true) : ∀ c ∈ cs.map Con.plain, ConG c := by
 intro c hc
 obtain ⟨x, hx, rfl⟩ := List.mem_map.1 hc
 have hf := h.2 x hx
 have hn := (conOk_parts (x := x) (by have := (okP_parts hok).2 _ hc; rwa [← conOk_plain] at this)).1
 exact ⟨hn, hf.2.1.2, hf.2.2.1⟩
theorem pgOk_gaps {x : PPg} (hok : pgOk x = true) : ∀ g ∈ x.gaps, g.1 ≤ 1099511627776 ∧ g.2 ≤ 1099511627776 := by
 unfold pgOk at hok
 simp only [Bool.and_eq_true] at hok
 obtain ⟨h1, _, h2⟩ := hok
 have hen : x.en ≤ 1099511627777 := by
  unfold topOk at h1
  simp only [Bool.and_eq_true, decide_eq_true_eq] at h1
  omega
 generalize x.fr = a at h2
 generalize x.items = its at h2
 generalize x.gaps = gs at h2
 induction gs generalizing a with
 | nil => intro g hg; cases hg
 | cons b r ih =>
  intro g hg
  unfold gapsOk at h2
  simp only [Bool.and_eq_true, decide_eq_true_eq] at h2
  rcases List.mem_cons.1 hg with rfl | hg
  ·omega
  ·exact ih _ h2.2.2.2.2 g hg
theorem takeG_form {x : PPg} (hok : pgOk x = true) (hi : ∀ y ∈ x.items, Fits y.es) : takeG (pageForm x) = some x := by
 have h := pPage_fwd [] hok hi (pgOk_gaps hok)
 rw [List.append_nil] at h
 unfold takeG
 rw [h]
 simp [hok]
end
section
open Go.RowKit
def TakVE (L : List UInt8) (w : World) (e : Ending) (w' : World) : Prop :=
 ∃ (key : ByteArray) (p : Option Addr) (n c : Nat) (z : Int) (es : List At), e = .returned (.tuple #[.agg #[.string key, .slice p n c], .int .i64 z]) ∧ Old w w' ∧ SeesA w' (.slice p n c) es ∧ (∀ b, (Value.slice p n c).ownBlock = some b → w.heap.size ≤ b ∧ b < w'.heap.size) ∧ Fits es ∧
  ((takeE L = some (key, es) ∧ z = 0) ∨ (takeE L = none ∧ key = ⟨#[]⟩ ∧ es = [] ∧ z = 5))
theorem TakVE.no {L : List UInt8} {w w' : World} (h : takeE L = none) (k : Old w w') : TakVE L w (.returned (.tuple #[.agg #[.string ⟨#[]⟩, .slice none 0 0], .int .i64 5])) w' :=
 ⟨_, none, 0, 0, 5, [], rfl, k, SeesR.nil _, (fun b h => by cases h), (fun _ h => by cases h), Or.inr ⟨h, rfl, rfl, rfl⟩⟩
theorem rfdone_any (rp : Nat) (st : Option (List UInt8)) (w : World) (h : Rr w rp st) : Calls Tryz.prog 96 #[.pointer (some ⟨rp, 0, none⟩)] w fun e w' => e = .returned (.bool (st.elim false (fun l => l.isEmpty))) ∧ w = w' := by
 cases st with
 | none =>
  obtain ⟨p, n, c, hb⟩ := h.bad
  have g := blk2 hb
  clear h hb
  go_enter Tryz.func96, Tryz.ntmps96
  go_wp2_with fail
  go_ret
  exact ⟨rfl, rfl⟩
 | some l =>
  obtain ⟨p, c, hb, hs, _⟩ := h.cells
  have g := blk2 hb
  clear h hb hs
  cases l with
  | nil =>
   go_enter Tryz.func96, Tryz.ntmps96
   go_wp2_with fail
   go_ret
   exact ⟨rfl, rfl⟩
  | cons x r =>
   have t0 : ((((x :: r).length : Nat) : Int) == 0) = false := by simp; omega
   go_enter Tryz.func96, Tryz.ntmps96
   go_wp2_with fail
   go_ret
   exact ⟨rfl, rfl⟩
theorem Rr.new {w : World} {v : Value} {l : List UInt8} (h : Sees w v l) : Rr (w.alloc (.cells #[v, .bool false] 156)) w.heap.size (some l) := by
 refine ⟨v, heap_alloc_new _ _, h.alloc _, fun hl k hk => ?_⟩
 obtain ⟨b, o, c, rfl, _, _, hc⟩ := h.at hl
 simp only [Value.ownBlock, Option.some.injEq] at hk
 subst hk
 obtain ⟨x, hx⟩ : ∃ x, l[0]? = some x := ⟨_, List.getElem?_eq_getElem hl⟩
 exact World.block_lt_of_cell? _ _ (hc 0 x hx)
def PutV (ok : Bool) (F : List UInt8) (w : World) (e : Ending) (w' : World) : Prop :=
 ∃ (p : Option Addr) (c : Nat) (z : Int) (L : List UInt8), e = .returned (.tuple #[.slice p L.length c, .int .i64 z]) ∧ Old w w' ∧ Owns w' w.heap.size (.slice p L.length c) L ∧ L = (if ok then F else []) ∧ z = (if ok then 0 else 30)
theorem PutV.yes {F : List UInt8} {w w' : World} {e : Ending} (h : Formed w F e w') : PutV true F w e w' := by
 obtain ⟨p, n, c, rfl, ho, k⟩ := h
 obtain ⟨p', c', e', _, _⟩ := ho.sees.len
 simp only [Value.slice.injEq] at e'
 obtain ⟨rfl, rfl, rfl⟩ := e'
 exact ⟨_, _, _, F, rfl, k, ho, rfl, rfl⟩
theorem PutV.no {F : List UInt8} {w w' : World} {e : Ending} (h : e = .returned (.tuple #[.slice none 0 0, .int .i64 30]) ∧ Old w w') : PutV false F w e w' := by
 obtain ⟨rfl, k⟩ := h
 exact ⟨none, 0, 30, [], rfl, k, Owns.nil _ _, rfl, rfl⟩
theorem xor255_u8 {x : Nat} (h : x < 256) : bits .xor .u8 (x : Int) 255 = ((255 - x : Nat) : Int) := by revert x; decide +kernel
theorem xor255 (x : UInt8) : bits .xor .u8 (x.toNat : Int) 255 = ((UInt8.ofNat (255 - x.toNat)).toNat : Int) := by
 have h := UInt8.toNat_lt x
 rw [xor255_u8 h, UInt8.toNat_ofNat']
 omega
end
section
open Go.RowKit
end
section
open Go.RowKit
abbrev hasA (v : Value) : Con := ⟨⟨#[97]⟩, 1, noVal, v, []⟩
end
section
open Go.RowKit
end
section
open Go.RowKit
end
end Go.Proofs.YtpjpimahnnekkaaGreat
