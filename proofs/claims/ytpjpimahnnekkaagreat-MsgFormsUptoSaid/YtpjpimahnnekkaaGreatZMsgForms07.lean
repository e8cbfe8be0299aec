/- DERIVED. The document's TakePage: what is told lies in new memory. (gen_own7.py wrote it out of Ph7) -/
import Derived.Test.YtpjpimahnnekkaaGreatYpMsgForms29
import Derived.Test.YtpjpimahnnekkaaGreatYpMsgForms33
set_option maxRecDepth 100000
set_option maxHeartbeats 8000000
namespace Go.Proofs.YtpjpimahnnekkaaGreat
section
open Go.RowKit
def TakGo (L : List UInt8) (w : World) (e : Ending) (w' : World) : Prop :=
 ∃ (fr en : Nat) (p : Option Addr) (n c : Nat) (its : List It) (q : Option Addr) (m d : Nat) (gs : List PGap) (last : Bool) (z : Int),
  e = .returned (.tuple #[.agg #[.int .u64 fr, .int .u64 en, .slice p n c, .slice q m d, .bool last], .int .i64 z]) ∧ Old w w' ∧
  OwnN w' w.heap.size 29 4 It.cells It.av ItF (.slice p n c) its ∧ OwnsR w' w.heap.size 121 2 gapL (.slice q m d) gs ∧ ((fr < 18446744073709551616 ∧ en < 18446744073709551616) ∧ (∀ y ∈ its, Fits y.es ∧ y.n < 18446744073709551616 ∧ y.time < 18446744073709551616) ∧ ∀ g ∈ gs, g.1 < 18446744073709551616 ∧ g.2 < 18446744073709551616) ∧
  ((takeG L = some ⟨fr, en, its.map It.plain, gs, last⟩ ∧ z = 0) ∨ (takeG L = none ∧ fr = 0 ∧ en = 0 ∧ its = [] ∧ gs = [] ∧ last = false ∧ n = 0 ∧ m = 0 ∧ z = 5))
theorem TakGo.no {L : List UInt8} {w w' : World} (h : takeG L = none) (k : Old w w') : TakGo L w (.returned (.tuple #[.agg #[.int .u64 0, .int .u64 0, .slice none 0 0, .slice none 0 0, .bool false], .int .i64 5])) w' :=
 ⟨0, 0, none, 0, 0, [], none, 0, 0, [], false, 5, rfl, k, OwnN.nil _ _, OwnsR.nil _ _, ⟨⟨by decide, by decide⟩, fun _ h => (by cases h), fun _ h => (by cases h)⟩, Or.inr ⟨h, rfl, rfl, rfl, rfl, rfl, rfl, rfl, rfl⟩⟩
theorem ref_take_page_o (v : Value) (L : List UInt8) (w : World) (h : Sees w v L) : Calls Tryz.prog 51 #[v] w (TakGo L w) := by
 obtain ⟨pv, cv, rfl, _, _⟩ := h.len
 obtain ⟨W0, hW0⟩ : ∃ W0, w.alloc (.cells #[.int .u64 0, .int .u64 0, .slice none 0 0, .slice none 0 0, .bool false] 35) = W0 := ⟨_, rfl⟩
 have k0 : Old w W0 := by rw [← hW0]; exact (Keeps.refl _ _).alloc _
 have z0 : W0.heap.size = w.heap.size + 1 := by rw [← hW0]; simp
 have b0 : W0.heap[w.heap.size]? = some (.cells #[.int .u64 0, .int .u64 0, .slice none 0 0, .slice none 0 0, .bool false] 35 (0, 0)) := by rw [← hW0]; exact heap_alloc_new _ _
 obtain ⟨W1, hW1⟩ : ∃ W1, W0.alloc (.cells #[.slice pv L.length cv, .bool false] 156) = W1 := ⟨_, rfl⟩
 have k1 : Old W0 W1 := by rw [← hW1]; exact (Keeps.refl _ _).alloc _
 have hR : Rr W1 (w.heap.size + 1) (some L) := by rw [← hW1, ← z0]; exact Rr.new (h.old k0)
 obtain ⟨rp, hrp⟩ : ∃ rp, w.heap.size + 1 = rp := ⟨_, rfl⟩
 have CE := rfnum_any (w.heap.size + 1) 1099511627777 (some L) W1 hR (by decide)
 obtain ⟨q1, hq1⟩ : ∃ q, (some L).bind (pNum 1099511627777) = q := ⟨_, rfl⟩
 have hle1 : q1.elim 0 (·.1) ≤ 1099511627777 := by rw [← hq1]; exact q_le
 obtain ⟨res, hres⟩ : ∃ r, pPage L = r := ⟨_, rfl⟩
 have hT : takeG L = res.bind fun x => if pgOk x.1 && decide (x.2 = []) then some x.1 else none := by rw [← hres]; rfl
 have hfit := fun x (hx : res = some x) => pPage_inv (x := x.1) (r := x.2) (hres.trans hx)
 have hres1 : res = q1.bind fun a => (pNum 1099511627777 a.2).bind fun b => (pNum 4 b.2).bind fun x => (pMany pItem x.1 [] x.2).bind fun c => pgTail a.1 b.1 c.1 c.2 := by rw [← hres, pPage_eq, ← hq1]; rfl
 rw [hq1] at CE
 have C1 := Lib.hid CE
 have G := Lib.hid (And.intro (k0.trans k1) ((k1.block _ (lt_of_heap b0) (fun f => f)).trans b0))
 have zW1 : W1.heap.size = w.heap.size + 2 := by rw [← hW1]; simp [z0]
 have HT := Lib.hid (And.intro hT (And.intro hfit hres1))
 have HRP := Lib.hid hrp
 clear k0 k1 b0 hR h hT hfit hres hres1 hq1 CE hrp
 go_enter Tryz.func51, Tryz.ntmps51
 go_wp2_with fail
 refine C1.out.mono ?_
 rintro e w1 ⟨rfl, hr1, k1⟩
 have b1 := (k1.block _ (lt_of_heap G.out.2) (by omega)).trans G.out.2
 obtain ⟨cb, hcb⟩ : ∃ cb, w1.heap.size = cb := ⟨_, rfl⟩
 have hz1 : w.heap.size + 2 ≤ w1.heap.size := by have := k1.size; omega
 obtain ⟨fr, hfr⟩ : ∃ n, q1.elim 0 (·.1) = n := ⟨_, rfl⟩
 obtain ⟨st1, hst1⟩ : ∃ s, q1.map (·.2) = s := ⟨_, rfl⟩
 have hres := HT.out.2.2
 have hres1 := hres.trans (qsplit q1 (fun a l => (pNum 1099511627777 l).bind fun b => (pNum 4 b.2).bind fun x => (pMany pItem x.1 [] x.2).bind fun c => pgTail a b.1 c.1 c.2))
 rw [hst1] at hr1 hres1
 rw [hfr] at hle1 hres1 ⊢
 obtain ⟨Wa, hWa⟩ : ∃ Wa, w1.alloc (.cells #[.int .u64 0, .int .u64 0, .slice none 0 0, .slice none 0 0, .bool false] 35) = Wa := ⟨_, rfl⟩
 have oa : Old w1 Wa := by rw [← hWa]; exact (Keeps.refl _ _).alloc _
 have ba : Wa.heap[w1.heap.size]? = some (.cells #[.int .u64 0, .int .u64 0, .slice none 0 0, .slice none 0 0, .bool false] 35 (0, 0)) := by rw [← hWa]; exact heap_alloc_new _ _
 have ga := blk5 ba
 obtain ⟨W2, hW2⟩ : ∃ W2, ((((Wa.setCell ⟨w1.heap.size, 0, none⟩ (.int .u64 fr)).setCell ⟨w1.heap.size, 1, none⟩ (.int .u64 0)).setCell ⟨w1.heap.size, 2, none⟩ (.slice none 0 0)).setCell ⟨w1.heap.size, 3, none⟩ (.slice none 0 0)).setCell ⟨w1.heap.size, 4, none⟩ (.bool false) = W2 := ⟨_, rfl⟩
 have b2 : W2.heap[w1.heap.size]? = some (.cells #[.int .u64 fr, .int .u64 0, .slice none 0 0, .slice none 0 0, .bool false] 35 (0, 0)) := by rw [← hW2]; exact set5 ba
 have kk2 : Keeps (fun k => k = w1.heap.size) Wa W2 := by rw [← hW2]; exact keep5 _ _
 have r2 : Rr W2 (w.heap.size + 1) st1 := (hr1.old oa).above kk2 (fun b hb => by omega)
 have K2 : Keeps (fun k => k = w.heap.size + 1 ∨ w1.heap.size ≤ k) w1 W2 := (oa.weaken (fun i _ f => f.elim) : Keeps (fun k => k = w.heap.size + 1 ∨ w1.heap.size ≤ k) w1 Wa).then kk2 (fun i hi e => Or.inr (by omega))
 have CE := rfnum_any (w.heap.size + 1) 1099511627777 st1 W2 r2 (by decide)
 obtain ⟨q2, hq2⟩ : ∃ q, st1.bind (pNum 1099511627777) = q := ⟨_, rfl⟩
 have hle2 : q2.elim 0 (·.1) ≤ 1099511627777 := by rw [← hq2]; exact q_le
 have hres2 : res = q2.bind fun b => (pNum 4 b.2).bind fun x => (pMany pItem x.1 [] x.2).bind fun c => pgTail fr b.1 c.1 c.2 := by rw [hres1, ← hq2]; cases st1 <;> rfl
 rw [hq2] at CE
 have C2 := Lib.hid CE
 have G2 := Lib.hid (And.intro K2 (And.intro b2 (And.intro hres2 (And.intro b1 ((G.out.1.then k1 (fun i hi e => by omega)) : Old w w1)))))
 have HW2 := Lib.hid hW2
 have hzc : w1.heap.size < W2.heap.size := lt_of_heap b2
 clear hr1 k1 hfr hst1 hres hres1 oa ba hW2 b2 kk2 r2 K2 CE hq2 hres2 b1 C1 hcb
 go_wp2_with fail
 try rw [HW2.out]
 refine C2.out.mono ?_
 rintro e w2 ⟨rfl, hr2, k2⟩
 obtain ⟨en, hen⟩ : ∃ n, q2.elim 0 (·.1) = n := ⟨_, rfl⟩
 obtain ⟨st2, hst2⟩ : ∃ s, q2.map (·.2) = s := ⟨_, rfl⟩
 have hres2 := G2.out.2.2.1.trans (qsplit q2 (fun b l => (pNum 4 l).bind fun x => (pMany pItem x.1 [] x.2).bind fun c => pgTail fr b c.1 c.2))
 rw [hst2] at hr2 hres2
 rw [hen] at hle2 hres2 ⊢
 have b2 := (k2.block _ (lt_of_heap G2.out.2.1) (by omega)).trans G2.out.2.1
 have g2 := blk5 b2
 obtain ⟨W3, hW3⟩ : ∃ W3, w2.setCell ⟨w1.heap.size, 1, none⟩ (.int .u64 en) = W3 := ⟨_, rfl⟩
 have b3 : W3.heap[w1.heap.size]? = some (.cells #[.int .u64 fr, .int .u64 en, .slice none 0 0, .slice none 0 0, .bool false] 35 (0, 0)) := by
  rw [← hW3]; have := heap_setCell_same w2 w1.heap.size 1 _ _ (.int .u64 en) b2; simpa using this
 have kk3 : Keeps (fun k => k = w1.heap.size) w2 W3 := by rw [← hW3]; exact keepS _ (Keeps.refl _ _)
 have r3 : Rr W3 (w.heap.size + 1) st2 := hr2.above kk3 (fun b hb => by omega)
 have K3 : Keeps (fun k => k = w.heap.size + 1 ∨ w1.heap.size ≤ k) w1 W3 := (G2.out.1.then k2 (fun i hi e => Or.inl e)).then kk3 (fun i hi e => Or.inr (by omega))
 have CE := rfnum_any (w.heap.size + 1) 4 st2 W3 r3 (by decide)
 obtain ⟨q3, hq3⟩ : ∃ q, st2.bind (pNum 4) = q := ⟨_, rfl⟩
 have hn4 : q3.elim 0 (·.1) ≤ 4 := by rw [← hq3]; exact q_le
 have hres3 : res = q3.bind fun x => (pMany pItem x.1 [] x.2).bind fun c => pgTail fr en c.1 c.2 := by rw [hres2, ← hq3]; cases st2 <;> rfl
 rw [hq3] at CE
 have C3 := Lib.hid CE
 have G3 := Lib.hid (And.intro K3 (And.intro b3 hres3))
 have HW3 := Lib.hid hW3
 have hzc3 : w1.heap.size < W3.heap.size := lt_of_heap b3
 clear hr2 k2 hen hst2 hres2 b2 hW3 b3 kk3 r3 K3 CE hq3 hres3 C2 ga hWa
 go_wp2_with fail
 try rw [HW3.out]
 refine C3.out.mono ?_
 rintro e w3 ⟨rfl, hr3, k3⟩
 obtain ⟨n, hn⟩ : ∃ n, q3.elim 0 (·.1) = n := ⟨_, rfl⟩
 obtain ⟨st3, hst3⟩ : ∃ s, q3.map (·.2) = s := ⟨_, rfl⟩
 have hres3 := G3.out.2.2.trans (qsplit q3 (fun n l => (pMany pItem n [] l).bind fun c => pgTail fr en c.1 c.2))
 rw [hst3] at hr3 hres3
 rw [hn] at hn4 hres3 ⊢
 have b3 := (k3.block _ (lt_of_heap G3.out.2.1) (by omega)).trans G3.out.2.1
 have HI := Lib.hid (And.intro hres3 (And.intro hr3 (And.intro b3 (G3.out.1.then k3 (fun i hi e => Or.inl e)))))
 clear hr3 k3 hn hst3 hres3 b3 C3 g2
 go_wp2_with fail
 go_loopw [7] (fun v7 wr => ∃ (i : Nat) (s : List It) (st' : Option (List UInt8)), i ≤ n ∧ s.length = i ∧ v7 = .int .u64 i ∧ (res = st'.bind fun l => (pMany pItem (n - i) (s.map It.plain) l).bind fun c => pgTail fr en c.1 c.2) ∧ Rr wr (w.heap.size + 1) st' ∧
  (∃ v, wr.heap[w1.heap.size]? = some (.cells #[.int .u64 fr, .int .u64 en, v, .slice none 0 0, .bool false] 35 (0, 0)) ∧ OwnN wr (w1.heap.size + 1) 29 4 It.cells It.av ItF v s) ∧ Keeps (fun k => k = w.heap.size + 1 ∨ w1.heap.size ≤ k) w1 wr) (fun v7 _ => n - (intOf v7).toNat)
 case atStart => exact ⟨0, [], _, Nat.zero_le _, rfl, rfl, HI.out.1, HI.out.2.1, ⟨_, HI.out.2.2.1, OwnN.nil _ _⟩, HI.out.2.2.2⟩
 case round =>
  obtain ⟨_, s, st', hi, rfl, rfl, hM, hR, ⟨v, hb, ho⟩, hk⟩ := hrel
  obtain ⟨pi, ci, rfl, _, _⟩ := (ho.1.sees (fun _ => rfl) (by decide)).len
  have g := blk5 hb
  have hn63 : n ≤ 9223372036854775807 := by omega
  have hzr : w1.heap.size < wr.heap.size := lt_of_heap hb
  have H := Lib.hid (And.intro hM (And.intro hR (And.intro hb (And.intro ho hk))))
  clear hM hR hb ho hk
  go_upto_region 6 with fail
  go_cut [30] from 21 to 30 (fun v30 wc => v30 = .bool (decide (s.length < n) && st'.isSome) ∧ wr = wc)
  case first =>
   by_cases hlt : s.length < n
   ·cases st' with
    | none =>
     obtain ⟨pb, nb, cb, hrb⟩ := Rr.bad H.out.2.1
     have gr := blk2 hrb
     clear hrb
     go_wp2_with fail
     go_meet
     case rel => exact ⟨by simp, rfl⟩
    | some l' =>
     obtain ⟨pb, cb, hrb, _, _⟩ := Rr.cells H.out.2.1
     have gr := blk2 hrb
     clear hrb
     have HLT := Lib.hid hlt
     go_wp2_with fail
     go_meet
     case rel => exact ⟨by simp [HLT.out], rfl⟩
   ·have HLT := Lib.hid hlt
    go_wp2_with fail
    go_meet
    case rel => exact ⟨by simp [HLT.out], rfl⟩
  case rest =>
   obtain ⟨rfl, rfl⟩ := hcut
   obtain ⟨t, ht⟩ : ∃ t, (decide (s.length < n) && st'.isSome) = t := ⟨_, rfl⟩
   rw [ht]
   cases t
   case true =>
    obtain ⟨hlt, l', rfl⟩ : s.length < n ∧ ∃ l', st' = some l' := by
     simp only [Bool.and_eq_true, decide_eq_true_eq] at ht
     exact ⟨ht.1, Option.isSome_iff_exists.1 ht.2⟩
    have hSt : res = (pItem l').bind fun y => (pMany pItem (n - (s.length + 1)) (s.map It.plain ++ [y.1]) y.2).bind fun c => pgTail fr en c.1 c.2 := by
     have e1 : n - s.length = n - (s.length + 1) + 1 := by omega
     rw [H.out.1]
     simp only [Option.bind_some]
     rw [e1, pMany]
     cases pItem l' <;> rfl
    have HS := Lib.hid hSt
    have g3 := g.1.2.2.1
    clear hSt ht
    go_wp2_with fail
    refine wp_region_g (S := fun W' => W'.cell? ⟨w1.heap.size, 2, none⟩ = some (.slice pi s.length ci)) (M := [0, 1, 2, 3, 4, 5, 6]) (by kernel_rfl) ?_
    have hS : wr.drew.cell? ⟨w1.heap.size, 2, none⟩ = some (.slice pi s.length ci) := g3
    refine wpAnyG_takeL (i := 0) (oi := _) (v := ?vy0) rfl (by kernel_rfl) (by kernel_rfl) (by kernel_rfl) (by kernel_rfl) (fun _ _ _ h => h) (Or.inl ⟨by rfl, ?yy0⟩) hS ?ry0
    case yy0 => (intro W hSw; go_simp; try with_reducible rfl)
    try simp only [Act.put, List.setIfInBounds_toArray, List.set_cons_zero, List.set_cons_succ]
    refine wpAnyG_takeL (i := 1) (oi := _) (v := ?vy1) rfl (by kernel_rfl) (by kernel_rfl) (by kernel_rfl) (by kernel_rfl) (fun _ _ _ h => h) (Or.inl ⟨by rfl, ?yy1⟩) hS ?ry1
    case yy1 => (intro W hSw; go_simp; try with_reducible rfl)
    try simp only [Act.put, List.setIfInBounds_toArray, List.set_cons_zero, List.set_cons_succ]
    refine wpAnyG_takeL (i := 2) (oi := _) (v := ?vy2) rfl (by kernel_rfl) (by kernel_rfl) (by kernel_rfl) (by kernel_rfl) (fun _ _ _ h => h) (Or.inl ⟨by rfl, ?yy2⟩) hS ?ry2
    case yy2 => (intro W hSw; go_simp; try with_reducible rfl)
    try simp only [Act.put, List.setIfInBounds_toArray, List.set_cons_zero, List.set_cons_succ]
    refine wpAnyG_onlyL (i := 3) (o := _) (by kernel_rfl) rfl (fun K hK => ?_)
    go_simp
    refine (rfitem_any (w.heap.size + 1) (some l') _ (H.out.2.1.old (Keeps.refl _ _).drew)).mono ?_
    rintro e w7 ⟨⟨nn, tm, key, p2, n2, c2, es, rfl, hoA, hbd, hx⟩, hr7, k7⟩
    have hS2 : w7.cell? ⟨w1.heap.size, 2, none⟩ = some (.slice pi s.length ci) := k7.cell hS (by dsimp only; omega)
    go_wp2_with fail
    refine hK.out _ _ (fun _ => hS2) ?_
    clear hK K
    try simp only [Act.put, List.setIfInBounds_toArray, List.set_cons_zero, List.set_cons_succ]
    have b7 := (k7.block _ (lt_of_heap H.out.2.2.1) (by omega)).trans H.out.2.2.1
    have on := (H.out.2.2.2.1.keeps itF_k (Keeps.refl (fun _ => False) wr).drew (fun _ _ _ f => f)).keeps itF_k k7 (fun b h1 h2 e => by omega)
    have hz7 : w1.heap.size + 1 ≤ w7.heap.size := lt_of_heap b7
    have kA : Old w7 (w7.alloc (.cells #[.int .u64 nn, .int .u64 tm, .string key, .slice p2 n2 c2] 29)) := (Keeps.refl _ _).alloc _
    have hvl := on.1.block
    have hsl : ∀ b, (Value.slice p2 n2 c2).ownBlock = some b → wr.heap.size ≤ b ∧ b < w7.heap.size := hoA.block
    have hal : (w7.alloc (.cells #[.int .u64 nn, .int .u64 tm, .string key, .slice p2 n2 c2] 29)).heap.size = w7.heap.size + 1 := by simp
    have hvo := H.out.2.2.2.1.1.block
    have nb : ∀ b, (Value.slice p2 n2 c2).ownBlock = some b → w1.heap.size + 1 ≤ b ∧ b < (w7.alloc (.cells #[.int .u64 nn, .int .u64 tm, .string key, .slice p2 n2 c2] 29)).heap.size ∧ (Value.slice pi s.length ci).ownBlock ≠ some b := fun b hb => ⟨by have := hsl b hb; omega, by have := hsl b hb; omega, fun e => by have := hsl b hb; have := hvo b e; omega⟩
    have NN := Lib.hid (And.intro (on.keeps itF_k kA (fun _ _ _ f => f)) (And.intro (show ItF (⟨nn, tm, key, .slice p2 n2 c2, es⟩ : It) (w7.alloc (.cells #[.int .u64 nn, .int .u64 tm, .string key, .slice p2 n2 c2] 29)) from SeesR.old (hoA.sees (fun _ => rfl) (by decide)) kA) nb))
    have HO := Lib.hid (on.1.alloc (.cells #[.int .u64 nn, .int .u64 tm, .string key, .slice p2 n2 c2] 29))
    have SN := Lib.hid (SeesR.new (k := 4) (enc := It.cells) w7 29 (0, 0) [(⟨nn, tm, key, .slice p2 n2 c2, es⟩ : It)] #[.int .u64 nn, .int .u64 tm, .string key, .slice p2 n2 c2] (by simp [It.cells]) (fun _ => rfl) (by unfold maxLen; simp))
    have HN := Lib.hid (show s.length + 1 ≤ maxLen ∧ (s.length + 1) * 56 ≤ 140737488355328 ∧ w1.heap.size + 1 ≤ (w7.alloc (.cells #[.int .u64 nn, .int .u64 tm, .string key, .slice p2 n2 c2] 29)).heap.size from ⟨by unfold maxLen; omega, by omega, by omega⟩)
    have F := Lib.hid (And.intro hr7 (And.intro k7 (And.intro hx (And.intro b7 hbd))))
    clear hr7 k7 hx b7 on kA hvl hsl hal nb hoA hbd hvo
    refine wpAnyG_onlyL (i := 4) (o := _) (by kernel_rfl) rfl (fun K hK => ?_)
    go_simp
    have hS3 : (w7.alloc (.cells #[.int .u64 nn, .int .u64 tm, .string key, .slice p2 n2 c2] 29)).cell? ⟨w1.heap.size, 2, none⟩ = some (.slice pi s.length ci) := ((Keeps.refl (fun _ => False) w7).alloc _).cell hS2 (fun f => f)
    refine hK.out _ _ (fun _ => hS3) ?_
    clear hK K
    try simp only [Act.put, List.setIfInBounds_toArray, List.set_cons_zero, List.set_cons_succ]
    refine wpAnyG_onlyL (i := 5) (o := _) (by kernel_rfl) rfl (fun K hK => ?_)
    refine step_append_rows (P := Tryz.prog) rfl _ _ 32 rfl (w1.heap.size + 1) 29 4 56 It.cells _ Tryz.underlying32 Tryz.infoItem rfl (by decide) (.slice pi s.length ci) s (by rfl) HO.out _ [(⟨nn, tm, key, .slice p2 n2 c2, es⟩ : It)] (by rfl) SN.out (fun _ _ => rfl) (by simp [It.cells, Value.oneCell']) HN.out.1 HN.out.2.1 HN.out.2.2 ?_
    intro v' w8 ho8 hg8 hv8
    obtain ⟨p', c', ev', _, _⟩ := (ho8.sees (fun _ => rfl) (by decide)).len
    subst ev'
    have k8 : Keeps (fun k => w1.heap.size < k) w7 w8 := ((Keeps.refl _ _).alloc _).grown hg8 (fun k hk _ => by have := NN.out.1.1.block k hk; omega)
    have hS4 : w8.cell? ⟨w1.heap.size, 2, none⟩ = some (.slice pi s.length ci) := k8.cell hS2 (by dsimp only; omega)
    have b8 := (k8.block _ (lt_of_heap F.out.2.2.2.1) (by omega)).trans F.out.2.2.2.1
    have g8 := (blk5 b8).1
    have g8f := (blk5 b8).2
    have N8 := OwnN.snoc itF_k NN.out.1 NN.out.2.1 NN.out.2.2 ho8 hg8 hv8
    have E := Lib.hid (And.intro k8 (And.intro N8 b8))
    clear k8 ho8 b8 hg8 hS3 hv8 N8
    refine hK.out _ _ (fun _ => hS4) ?_
    clear hK K
    try simp only [Act.put, List.setIfInBounds_toArray, List.set_cons_zero, List.set_cons_succ]
    refine wpAnyG_takeL (i := 6) (oi := _) (v := ?vy6) rfl (by kernel_rfl) (by kernel_rfl) (by kernel_rfl) (by kernel_rfl) (fun _ _ _ h => h) (Or.inl ⟨by rfl, ?yy6⟩) hS4 ?ry6
    case yy6 => (intro W hSw; go_simp; try with_reducible rfl)
    try simp only [Act.put, List.setIfInBounds_toArray, List.set_cons_zero, List.set_cons_succ]
    refine wpAnyG_onlyL (i := 7) (o := _) (by kernel_rfl) rfl (fun K hK => ?_)
    go_simp
    refine hK.out _ _ (fun h => absurd h (by decide)) ?_
    clear hK K
    refine wpAnyG_done (by kernel_rfl) ?_ _
    go_simp
    go_wp2_with fail
    go_roundw
    case rel =>
     have e1 : (s ++ [(⟨nn, tm, key, .slice p2 n2 c2, es⟩ : It)]).length = s.length + 1 := by simp
     have kS : Keeps (fun k => k = w1.heap.size) w8 (w8.setCell ⟨w1.heap.size, 2, none⟩ (.slice p' (s ++ [(⟨nn, tm, key, .slice p2 n2 c2, es⟩ : It)]).length c')) := keepS _ (Keeps.refl _ _)
     have kF : Keeps (fun k => w1.heap.size ≤ k) w7 (w8.setCell ⟨w1.heap.size, 2, none⟩ (.slice p' (s ++ [(⟨nn, tm, key, .slice p2 n2 c2, es⟩ : It)]).length c')) := (E.out.1.weaken (fun i _ h => Nat.le_of_lt h)).setCell (fun _ => Nat.le_refl _) _
     have oF := E.out.2.1.keeps itF_k kS (fun b h1 h2 e => by omega)
     have bF := heap_setCell_same w8 w1.heap.size 2 _ _ (.slice p' (s ++ [(⟨nn, tm, key, .slice p2 n2 c2, es⟩ : It)]).length c') E.out.2.2
     rw [e1] at kF oF bF
     refine ⟨s.length + 1, s ++ [(⟨nn, tm, key, .slice p2 n2 c2, es⟩ : It)], (pItem l').map (·.2), by omega, by simp, by go_num, ?_, F.out.1.above kF (fun b hb => by omega), ⟨.slice p' (s.length + 1) c', by simpa using bF, oF⟩, ?_⟩
     ·rw [HS.out]
      have hv := F.out.2.2.1
      simp only [Option.bind_some] at hv
      cases hq : pItem l' with
      | none => rfl
      | some y =>
       simp only [Option.bind_some, Option.map_some, List.map_append, List.map_cons, List.map_nil]
       rw [← hv y hq]
       rfl
     ·exact ((H.out.2.2.2.2.then (Keeps.refl (fun _ => False) wr).drew (fun _ _ f => f.elim)).then (F.out.2.1.weaken (fun i _ e => Or.inl e) : Keeps (fun k => k = w.heap.size + 1 ∨ w1.heap.size ≤ k) wr.drew w7) (fun i hi e => e)).then kF (fun i hi h => Or.inr h)
    case measure => simp [intOf]; omega
   case false =>
    have hex : res = st'.bind (pgTail fr en (s.map It.plain)) := by
     rw [H.out.1]
     cases st' with
     | none => rfl
     | some l' =>
      have e0 : n - s.length = 0 := by simp at ht; omega
      rw [e0]; rfl
    have CE := rfnum_any (w.heap.size + 1) 16 st' wr H.out.2.1 (by decide)
    obtain ⟨q4, hq4⟩ : ∃ q, st'.bind (pNum 16) = q := ⟨_, rfl⟩
    have hm16 : q4.elim 0 (·.1) ≤ 16 := by rw [← hq4]; exact q_le
    have hres4 : res = q4.bind fun x => (pMany pGap x.1 [] x.2).bind fun d => pgEnd fr en (s.map It.plain) d.1 d.2 := by rw [hex, ← hq4]; cases st' <;> rfl
    rw [hq4] at CE
    have C4 := Lib.hid CE
    have HR4 := Lib.hid hres4
    clear hex CE hq4 hres4 ht
    go_wp2_with fail
    refine C4.out.mono ?_
    rintro e w4 ⟨rfl, hr4, k4⟩
    obtain ⟨m, hm⟩ : ∃ n, q4.elim 0 (·.1) = n := ⟨_, rfl⟩
    obtain ⟨st4, hst4⟩ : ∃ s, q4.map (·.2) = s := ⟨_, rfl⟩
    have hres4 := HR4.out.trans (qsplit q4 (fun n l => (pMany pGap n [] l).bind fun d => pgEnd fr en (s.map It.plain) d.1 d.2))
    rw [hst4] at hr4 hres4
    rw [hm] at hm16 hres4 ⊢
    have b4 := (k4.block _ (lt_of_heap H.out.2.2.1) (by omega)).trans H.out.2.2.1
    have o4 := H.out.2.2.2.1.keeps itF_k k4 (fun b h1 h2 e => by omega)
    have hz4 : w1.heap.size < w4.heap.size := lt_of_heap b4
    have J := Lib.hid (And.intro hres4 (And.intro hr4 (And.intro b4 (And.intro o4 (H.out.2.2.2.2.then k4 (fun i hi e => Or.inl e))))))
    clear hr4 k4 hm hst4 hres4 b4 o4 C4 HR4 g
    go_wp2_with fail
    go_loopw [8, 9] (fun v8 _ wq => ∃ (i : Nat) (gs : List PGap) (st' : Option (List UInt8)), i ≤ m ∧ gs.length = i ∧ v8 = .int .u64 i ∧ (res = st'.bind fun l => (pMany pGap (m - i) gs l).bind fun d => pgEnd fr en (s.map It.plain) d.1 d.2) ∧ Rr wq (w.heap.size + 1) st' ∧
     (∃ v, wq.heap[w1.heap.size]? = some (.cells #[.int .u64 fr, .int .u64 en, .slice pi s.length ci, v, .bool false] 35 (0, 0)) ∧ OwnsR wq w4.heap.size 121 2 gapL v gs) ∧ Keeps (fun k => k = w.heap.size + 1 ∨ k = w1.heap.size ∨ w4.heap.size ≤ k) w4 wq) (fun v8 _ _ => m - (intOf v8).toNat)
    case atStart => exact ⟨0, [], _, Nat.zero_le _, rfl, rfl, J.out.1, J.out.2.1, ⟨_, J.out.2.2.1, OwnsR.nil _ _⟩, Keeps.refl _ _⟩
    case round =>
     obtain ⟨wo, rfl⟩ : ∃ wo : World, wo = wr := ⟨_, rfl⟩
     obtain ⟨_, gs, st5, hi5, rfl, rfl, hM, hR, ⟨v, hb, ho⟩, hk⟩ := hrel
     obtain ⟨pg, cg, rfl, _, _⟩ := (ho.sees (fun _ => rfl) (by decide)).len
     have g := blk5 hb
     have hm63 : m ≤ 9223372036854775807 := by omega
     have hzq : w1.heap.size < wo.heap.size := lt_of_heap hb
     have hz5 : w4.heap.size ≤ wo.heap.size := hk.size
     have Q := Lib.hid (And.intro hM (And.intro hR (And.intro hb (And.intro ho hk))))
     clear hM hR hb ho hk
     go_upto_region 11 with fail
     go_cut [51] from 42 to 51 (fun v51 wc => v51 = .bool (decide (gs.length < m) && st5.isSome) ∧ wo = wc)
     case first =>
      by_cases hlt : gs.length < m
      ·cases st5 with
       | none =>
        obtain ⟨pb, nb, cb, hrb⟩ := Rr.bad Q.out.2.1
        have gr := blk2 hrb
        clear hrb
        go_wp2_with fail
        go_meet
        case rel => exact ⟨by simp, rfl⟩
       | some l' =>
        obtain ⟨pb, cb, hrb, _, _⟩ := Rr.cells Q.out.2.1
        have gr := blk2 hrb
        clear hrb
        have HLT := Lib.hid hlt
        go_wp2_with fail
        go_meet
        case rel => exact ⟨by simp [HLT.out], rfl⟩
      ·have HLT := Lib.hid hlt
       go_wp2_with fail
       go_meet
       case rel => exact ⟨by simp [HLT.out], rfl⟩
     case rest =>
      obtain ⟨rfl, rfl⟩ := hcut
      obtain ⟨t, ht⟩ : ∃ t, (decide (gs.length < m) && st5.isSome) = t := ⟨_, rfl⟩
      rw [ht]
      cases t
      case true =>
       obtain ⟨hlt, l', rfl⟩ : gs.length < m ∧ ∃ l', st5 = some l' := by
        simp only [Bool.and_eq_true, decide_eq_true_eq] at ht
        exact ⟨ht.1, Option.isSome_iff_exists.1 ht.2⟩
       have CE := rfnum_any (w.heap.size + 1) 1099511627776 (some l') wo Q.out.2.1 (by decide)
       obtain ⟨qa, hqa⟩ : ∃ q, (some l').bind (pNum 1099511627776) = q := ⟨_, rfl⟩
       have hpg : pGap l' = qa.bind fun x => (pNum 1099511627776 x.2).map fun y => ((x.1, y.1), y.2) := by rw [← hqa]; rfl
       have hSt : res = (pGap l').bind fun y => (pMany pGap (m - (gs.length + 1)) (gs ++ [y.1]) y.2).bind fun d => pgEnd fr en (s.map It.plain) d.1 d.2 := by
        have e1 : m - gs.length = m - (gs.length + 1) + 1 := by omega
        rw [Q.out.1]
        simp only [Option.bind_some]
        rw [e1, pMany]
        cases pGap l' <;> rfl
       rw [hqa] at CE
       have C5 := Lib.hid CE
       have HS := Lib.hid (And.intro hSt hpg)
       clear hSt hpg CE hqa ht
       go_wp2_with fail
       refine C5.out.mono ?_
       rintro e w5 ⟨rfl, hr5, k5⟩
       obtain ⟨ga, hga⟩ : ∃ n, qa.elim 0 (·.1) = n := ⟨_, rfl⟩
       obtain ⟨st6, hst6⟩ : ∃ s, qa.map (·.2) = s := ⟨_, rfl⟩
       rw [hst6] at hr5
       rw [hga]
       have hpg2 : pGap l' = (st6.bind (pNum 1099511627776)).map fun y => ((ga, y.1), y.2) := by
        rw [HS.out.2, ← hst6, ← hga]; cases qa <;> rfl
       have b5 := (k5.block _ (lt_of_heap Q.out.2.2.1) (by omega)).trans Q.out.2.2.1
       have o5 := Q.out.2.2.2.1.keeps k5 (fun b hb e => by have := (Q.out.2.2.2.1.block b hb).1; omega)
       have g5 := blk5 b5
       have hz6 : w4.heap.size ≤ w5.heap.size := Nat.le_trans hz5 k5.size
       have hz6' : w1.heap.size < w5.heap.size := lt_of_heap b5
       have Q5 := Lib.hid (And.intro hpg2 (And.intro hr5 (And.intro b5 (And.intro o5 (Q.out.2.2.2.2.then k5 (fun i hi e => Or.inl e))))))
       have C6 := Lib.hid (fun W (h : Rr W (w.heap.size + 1) st6) => rfnum_any (w.heap.size + 1) 1099511627776 st6 W h (by decide))
       have g3 := g5.1.2.2.2.1
       clear hr5 k5 b5 o5 hpg2 hst6 hga C5 g
       go_wp2_with fail
       refine wp_region_g (S := fun W' => W'.cell? ⟨w1.heap.size, 3, none⟩ = some (.slice pg gs.length cg)) (M := [0, 1, 2, 3, 4, 5, 6, 7, 8]) (by kernel_rfl) ?_
       have hS : w5.drew.cell? ⟨w1.heap.size, 3, none⟩ = some (.slice pg gs.length cg) := g3
       refine wpAnyG_takeL (i := 0) (oi := _) (v := ?vx0) rfl (by kernel_rfl) (by kernel_rfl) (by kernel_rfl) (by kernel_rfl) (fun _ _ _ h => h) (Or.inl ⟨by rfl, ?yx0⟩) hS ?rx0
       case yx0 => (intro W hSw; go_simp; try with_reducible rfl)
       try simp only [Act.put, List.setIfInBounds_toArray, List.set_cons_zero, List.set_cons_succ]
       refine wpAnyG_takeL (i := 1) (oi := _) (v := ?vx1) rfl (by kernel_rfl) (by kernel_rfl) (by kernel_rfl) (by kernel_rfl) (fun _ _ _ h => h) (Or.inl ⟨by rfl, ?yx1⟩) hS ?rx1
       case yx1 => (intro W hSw; go_simp; try with_reducible rfl)
       try simp only [Act.put, List.setIfInBounds_toArray, List.set_cons_zero, List.set_cons_succ]
       refine wpAnyG_takeL (i := 2) (oi := _) (v := ?vx2) rfl (by kernel_rfl) (by kernel_rfl) (by kernel_rfl) (by kernel_rfl) (fun _ _ _ h => h) (Or.inl ⟨by rfl, ?yx2⟩) hS ?rx2
       case yx2 => (intro W hSw; go_simp; try with_reducible rfl)
       try simp only [Act.put, List.setIfInBounds_toArray, List.set_cons_zero, List.set_cons_succ]
       refine wpAnyG_takeL (i := 3) (oi := _) (v := ?vx3) rfl (by kernel_rfl) (by kernel_rfl) (by kernel_rfl) (by kernel_rfl) (fun _ _ _ h => h) (Or.inl ⟨by rfl, ?yx3⟩) hS ?rx3
       case yx3 => (intro W hSw; go_simp; try with_reducible rfl)
       try simp only [Act.put, List.setIfInBounds_toArray, List.set_cons_zero, List.set_cons_succ]
       refine wpAnyG_onlyL (i := 4) (o := _) (by kernel_rfl) rfl (fun K hK => ?_)
       go_simp
       refine (C6.out _ (Q5.out.2.1.old (Keeps.refl _ _).drew)).mono ?_
       rintro e w7 ⟨rfl, hr7, k7⟩
       obtain ⟨qb, hqb⟩ : ∃ q, st6.bind (pNum 1099511627776) = q := ⟨_, rfl⟩
       rw [hqb] at hr7 ⊢
       have hpg3 := Q5.out.1
       rw [hqb] at hpg3
       obtain ⟨gz, hgz⟩ : ∃ n, qb.elim 0 (·.1) = n := ⟨_, rfl⟩
       rw [hgz]
       have hS2 : w7.cell? ⟨w1.heap.size, 3, none⟩ = some (.slice pg gs.length cg) := k7.cell hS (by dsimp only; omega)
       go_wp2_with fail
       refine hK.out _ _ (fun _ => hS2) ?_
       clear hK K
       try simp only [Act.put, List.setIfInBounds_toArray, List.set_cons_zero, List.set_cons_succ]
       have b7 := (k7.block _ (lt_of_heap Q5.out.2.2.1) (by omega)).trans Q5.out.2.2.1
       have o7 := (Q5.out.2.2.2.1.old ((Keeps.refl _ _).drew)).keeps k7 (fun b hb e => by have := (Q5.out.2.2.2.1.block b hb).1; omega)
       have hz7 : w4.heap.size ≤ w7.heap.size := Nat.le_trans (show w4.heap.size ≤ w5.drew.heap.size from hz6) k7.size
       have F := Lib.hid (And.intro hr7 (And.intro k7 (And.intro hpg3 (And.intro b7 hgz))))
       have OB := Lib.hid (fun b (hb : (Value.slice pg gs.length cg).ownBlock = some b) => (o7.block b hb).1)
       have SN := Lib.hid (SeesR.new (k := 2) (enc := gapL) w7 121 (0, 0) [((ga, gz) : PGap)] #[.int .u64 ga, .int .u64 gz] (by simp [gapL]) (fun _ => rfl) (by unfold maxLen; simp))
       have O7 := Lib.hid (o7.alloc (.cells #[.int .u64 ga, .int .u64 gz] 121))
       have HN := Lib.hid (show gs.length + 1 ≤ maxLen ∧ (gs.length + 1) * 16 ≤ 140737488355328 from ⟨by unfold maxLen; omega, by omega⟩)
       clear hr7 k7 b7 o7 hpg3 hqb hgz
       refine wpAnyG_takeL (i := 5) (oi := _) (v := ?vx5) rfl (by kernel_rfl) (by kernel_rfl) (by kernel_rfl) (by kernel_rfl) (fun _ _ _ h => h) (Or.inl ⟨by rfl, ?yx5⟩) hS2 ?rx5
       case yx5 => (intro W hSw; go_simp; try with_reducible rfl)
       try simp only [Act.put, List.setIfInBounds_toArray, List.set_cons_zero, List.set_cons_succ]
       refine wpAnyG_onlyL (i := 6) (o := _) (by kernel_rfl) rfl (fun K hK => ?_)
       go_simp
       have hS3 : (w7.alloc (.cells #[.int .u64 ga, .int .u64 gz] 121)).cell? ⟨w1.heap.size, 3, none⟩ = some (.slice pg gs.length cg) := ((Keeps.refl (fun _ => False) w7).alloc _).cell hS2 (fun f => f)
       refine hK.out _ _ (fun _ => hS3) ?_
       clear hK K
       try simp only [Act.put, List.setIfInBounds_toArray, List.set_cons_zero, List.set_cons_succ]
       refine wpAnyG_onlyL (i := 7) (o := _) (by kernel_rfl) rfl (fun K hK => ?_)
       refine step_append_rows (P := Tryz.prog) rfl _ _ 33 rfl w4.heap.size 121 2 16 gapL _ Tryz.underlying33 Tryz.infoGap rfl (by decide) (.slice pg gs.length cg) gs (by rfl) O7.out _ [((ga, gz) : PGap)] (by rfl) SN.out (fun _ _ => rfl) (by simp [gapL, Value.oneCell']) HN.out.1 HN.out.2 (Nat.le_trans hz7 (by simp)) ?_
       intro v' w8 ho8 hg8 _
       obtain ⟨p', c', ev', _, _⟩ := (ho8.sees (fun _ => rfl) (by decide)).len
       subst ev'
       have k8 : Keeps (fun k => w4.heap.size ≤ k) w7 w8 := ((Keeps.refl _ _).alloc _).grown hg8 (fun k hk _ => OB.out k hk)
       have hS4 : w8.cell? ⟨w1.heap.size, 3, none⟩ = some (.slice pg gs.length cg) := k8.cell hS2 (by dsimp only; omega)
       have b8 := (k8.block _ (lt_of_heap F.out.2.2.2.1) (by omega)).trans F.out.2.2.2.1
       have g8 := (blk5 b8).1
       have g8f := (blk5 b8).2
       have E := Lib.hid (And.intro k8 (And.intro ho8 b8))
       clear k8 ho8 b8 hg8 hS3
       refine hK.out _ _ (fun _ => hS4) ?_
       clear hK K
       try simp only [Act.put, List.setIfInBounds_toArray, List.set_cons_zero, List.set_cons_succ]
       refine wpAnyG_takeL (i := 8) (oi := _) (v := ?vx8) rfl (by kernel_rfl) (by kernel_rfl) (by kernel_rfl) (by kernel_rfl) (fun _ _ _ h => h) (Or.inl ⟨by rfl, ?yx8⟩) hS4 ?rx8
       case yx8 => (intro W hSw; go_simp; try with_reducible rfl)
       try simp only [Act.put, List.setIfInBounds_toArray, List.set_cons_zero, List.set_cons_succ]
       refine wpAnyG_onlyL (i := 9) (o := _) (by kernel_rfl) rfl (fun K hK => ?_)
       go_simp
       refine hK.out _ _ (fun h => absurd h (by decide)) ?_
       clear hK K
       refine wpAnyG_done (by kernel_rfl) ?_ _
       go_simp
       go_wp2_with fail
       go_roundw
       case rel =>
        have e1 : (gs ++ [((ga, gz) : PGap)]).length = gs.length + 1 := by simp
        have kS : Keeps (fun k => k = w1.heap.size) w8 (w8.setCell ⟨w1.heap.size, 3, none⟩ (.slice p' (gs ++ [((ga, gz) : PGap)]).length c')) := keepS _ (Keeps.refl _ _)
        have kF : Keeps (fun k => k = w1.heap.size ∨ w4.heap.size ≤ k) w7 (w8.setCell ⟨w1.heap.size, 3, none⟩ (.slice p' (gs ++ [((ga, gz) : PGap)]).length c')) := (E.out.1.weaken (fun i _ h => Or.inr h) : Keeps (fun k => k = w1.heap.size ∨ w4.heap.size ≤ k) w7 w8).setCell (fun _ => Or.inl rfl) _
        have oF := E.out.2.1.keeps kS (fun b hb e => by have := (E.out.2.1.block b hb).1; omega)
        have bF := heap_setCell_same w8 w1.heap.size 3 _ _ (.slice p' (gs ++ [((ga, gz) : PGap)]).length c') E.out.2.2
        rw [e1] at kF oF bF
        refine ⟨gs.length + 1, gs ++ [((ga, gz) : PGap)], qb.map (·.2), by omega, by simp, by go_num, ?_, F.out.1.above kF (fun b hb => by omega), ⟨.slice p' (gs.length + 1) c', by simpa using bF, oF⟩, ?_⟩
        ·rw [HS.out.1, F.out.2.2.1]
         have hz := F.out.2.2.2.2
         cases qb with
         | none => rfl
         | some y => rw [← hz]; rfl
        ·exact ((Q5.out.2.2.2.2.then (Keeps.refl (fun _ => False) w5).drew (fun _ _ f => f.elim)).then (F.out.2.1.weaken (fun i _ e => Or.inl e) : Keeps (fun k => k = w.heap.size + 1 ∨ k = w1.heap.size ∨ w4.heap.size ≤ k) w5.drew w7) (fun i hi e => e)).then kF (fun i hi h => Or.inr h)
       case measure => simp [intOf]; omega
      case false =>
       have hex : res = (st5.bind (pNum 1)).map fun f => (⟨fr, en, s.map It.plain, gs, f.1 == 1⟩, f.2) := by
        rw [Q.out.1]
        cases st5 with
        | none => rfl
        | some l' =>
         have e0 : m - gs.length = 0 := by simp at ht; omega
         rw [e0]; rfl
       have CE := rfnum_any (w.heap.size + 1) 1 st5 wo Q.out.2.1 (by decide)
       obtain ⟨q5, hq5⟩ : ∃ q, st5.bind (pNum 1) = q := ⟨_, rfl⟩
       rw [hq5] at CE hex
       have C7 := Lib.hid CE
       have HR5 := Lib.hid hex
       clear hex CE hq5 ht
       go_wp2_with fail
       refine C7.out.mono ?_
       rintro e w5 ⟨rfl, hr5, k5⟩
       obtain ⟨lf, hlf⟩ : ∃ n, q5.elim 0 (·.1) = n := ⟨_, rfl⟩
       rw [hlf]
       obtain ⟨lst, hl1⟩ : ∃ b, ((lf : Int) == 1) = b := ⟨_, rfl⟩
       have hl2 : (lf == 1) = lst := by rw [← hl1, Bool.eq_iff_iff, beq_iff_eq, beq_iff_eq]; omega
       have hl3 : decide (lf = 1) = lst := by rw [← hl2]; rfl
       have b5 := (k5.block _ (lt_of_heap Q.out.2.2.1) (by omega)).trans Q.out.2.2.1
       have g5 := blk5 b5
       have o5 := Q.out.2.2.2.1.keeps k5 (fun b hb e => by have := (Q.out.2.2.2.1.block b hb).1; omega)
       obtain ⟨W6, hW6⟩ : ∃ W6, w5.setCell ⟨w1.heap.size, 4, none⟩ (.bool lst) = W6 := ⟨_, rfl⟩
       have b6 : W6.heap[w1.heap.size]? = some (.cells #[.int .u64 fr, .int .u64 en, .slice pi s.length ci, .slice pg gs.length cg, .bool lst] 35 (0, 0)) := by
        rw [← hW6]; have := heap_setCell_same w5 w1.heap.size 4 _ _ (.bool lst) b5; simpa using this
       have kk6 : Keeps (fun k => k = w1.heap.size) w5 W6 := by rw [← hW6]; exact keepS _ (Keeps.refl _ _)
       have r6 : Rr W6 (w.heap.size + 1) (q5.map (·.2)) := hr5.above kk6 (fun b hb => by omega)
       have o6 := o5.keeps kk6 (fun b hb e => by have := (o5.block b hb).1; omega)
       have k46 : Keeps (fun k => k = w.heap.size + 1 ∨ k = w1.heap.size ∨ w4.heap.size ≤ k) w4 W6 := (Q.out.2.2.2.2.then k5 (fun i hi e => Or.inl e)).then kk6 (fun i hi e => Or.inr (Or.inl e))
       have oi := J.out.2.2.2.1.keeps itF_k k46 (fun b h1 h2 e => by omega)
       have kT : Keeps (fun k => k = w.heap.size + 1 ∨ w1.heap.size ≤ k) w1 W6 := J.out.2.2.2.2.then k46 (fun i hi e => by omega)
       have hb0 := (kT.block _ (lt_of_heap G2.out.2.2.2.1) (by omega)).trans G2.out.2.2.2.1
       have kW : Old w W6 := G2.out.2.2.2.2.then kT (fun i hi e => by omega)
       have hresF : res = q5.map fun f => (⟨fr, en, s.map It.plain, gs, lst⟩, f.2) := by
        rw [HR5.out]
        cases q5 with
        | none => rfl
        | some f =>
         have : (f.1 == 1) = lst := by rw [← hl2, ← hlf]; rfl
         simp only [Option.map_some, this]
       have hD := rfdone_any (w.heap.size + 1) (q5.map (·.2)) W6 r6
       obtain ⟨dn, hdn⟩ : ∃ d, (q5.map (·.2)).elim false (fun l => l.isEmpty) = d := ⟨_, rfl⟩
       rw [hdn] at hD
       have DN := Lib.hid hD
       have g0 := blk5 hb0
       have gp := blk5 b6
       have HL := Lib.hid (And.intro hl1 (And.intro hl2 hl3))
       have X := Lib.hid (And.intro hresF (And.intro b6 (And.intro oi (And.intro o6 (And.intro kW hb0)))))
       have HW6 := Lib.hid hW6
       have HDN := Lib.hid hdn
       have hzf : w1.heap.size < W6.heap.size := lt_of_heap b6
       clear hr5 k5 hlf b5 o5 hW6 b6 kk6 r6 o6 k46 oi kT hb0 kW hresF hD hdn C7 HR5 g
       go_upto_region 16 with fail
       try rw [HW6.out]
       clear hl1 hl2 hl3 g5
       have hTk := HT.out.1
       rw [X.out.1] at hTk
       cases dn
       ·have hno : takeG L = none := by
         rw [hTk]
         cases q5 with
         | none => rfl
         | some f =>
          have h := HDN.out
          have hne : f.2 ≠ [] := by intro e; simp [e] at h
          simp [hne]
        have HN := Lib.hid (TakGo.no hno (X.out.2.2.2.2.1.then (keep5 (a0 := .int .u64 0) (a1 := .int .u64 0) (a2 := .slice none 0 0) (a3 := .slice none 0 0) (a4 := .bool false) W6 w.heap.size) (fun i hi e => by omega)))
        clear hno hTk
        go_wp2_with fail
        refine DN.out.mono ?_
        rintro e w9 ⟨rfl, rfl⟩
        go_wp2_with fail
        exact bodyPost_ret (v := .tuple #[.agg #[.int .u64 0, .int .u64 0, .slice none 0 0, .slice none 0 0, .bool false], .int .i64 5]) (by simp [results, Tryz.results51, go_sem, g0]) rfl HN.out
       ·obtain ⟨f, hf, hf2⟩ : ∃ f, q5 = some f ∧ f.2 = [] := by
         have h := HDN.out
         cases q5 with
         | none => simp at h
         | some f => exact ⟨f, rfl, by simpa using h⟩
        have hinv := HT.out.2.1 (⟨fr, en, s.map It.plain, gs, lst⟩, f.2) (by rw [X.out.1, hf]; rfl)
        obtain ⟨hi1, hi2, hi3, _⟩ := hinv
        have hfine : Pg.fine W6 ⟨fr, en, .slice pi s.length ci, s, .slice pg gs.length cg, gs, lst⟩ := by
         refine ⟨⟨X.out.2.2.1.1.sees (fun _ => rfl) (by decide), fun y hy => ?_, X.out.2.2.2.1.sees (fun _ => rfl) (by decide)⟩, fun g hg => by have := hi3 g hg; omega, ⟨by simp only; omega, by simp only; omega⟩, fun _ b hb => (X.out.2.2.1.1.block b hb).2, fun _ b hb => (X.out.2.2.2.1.block b hb).2⟩
         have hg := hi2 y.plain (List.mem_map_of_mem hy)
         have g1 : y.n ≤ 1099511627776 := hg.2.1
         have g2 : y.time ≤ 1099511627776 := hg.2.2
         exact ⟨(X.out.2.2.1.2 y hy).1, fun _ k hk => ((X.out.2.2.1.2 y hy).2 k hk).2.1, hg.1, by omega, by omega⟩
        have CM := ref_may_page_any ⟨fr, en, .slice pi s.length ci, s, .slice pg gs.length cg, gs, lst⟩ W6 hfine
        unfold Pg.cells Pg.plain at CM
        simp only at CM
        rw [hf] at hTk
        simp only [Option.map_some, Option.bind_some, hf2, decide_true, Bool.and_true] at hTk
        cases hok : pgOk ⟨fr, en, s.map It.plain, gs, lst⟩
        ·rw [hok] at CM hTk
         have CH := Lib.hid CM
         have HNo := Lib.hid (show takeG L = none by simpa using hTk)
         clear CM hTk hok hi1 hi2 hi3 hf hf2 hfine
         go_wp2_with fail
         refine DN.out.mono ?_
         rintro e w9 ⟨rfl, rfl⟩
         go_wp2_with fail
         refine CH.out.mono ?_
         rintro e w10 ⟨rfl, k10⟩
         have b10 := (k10.block _ (lt_of_heap X.out.2.2.2.2.2) (fun f => f)).trans X.out.2.2.2.2.2
         clear g0 gp
         have g0 := blk5 b10
         have HN := Lib.hid (TakGo.no HNo.out ((X.out.2.2.2.2.1.trans k10).then (keep5 (a0 := .int .u64 0) (a1 := .int .u64 0) (a2 := .slice none 0 0) (a3 := .slice none 0 0) (a4 := .bool false) w10 w.heap.size) (fun i hi e => by omega)))
         clear k10 b10
         go_wp2_with fail
         exact bodyPost_ret (v := .tuple #[.agg #[.int .u64 0, .int .u64 0, .slice none 0 0, .slice none 0 0, .bool false], .int .i64 5]) (by simp [results, Tryz.results51, go_sem, g0]) rfl HN.out
        ·rw [hok] at CM hTk
         have CH := Lib.hid CM
         have HY := Lib.hid (And.intro (show takeG L = some ⟨fr, en, s.map It.plain, gs, lst⟩ by simpa using hTk) (And.intro hi1 (And.intro hi2 hi3)))
         clear CM hTk hok hi1 hi2 hi3 hf hf2 hfine
         go_wp2_with fail
         refine DN.out.mono ?_
         rintro e w9 ⟨rfl, rfl⟩
         go_wp2_with fail
         refine CH.out.mono ?_
         rintro e w10 ⟨rfl, k10⟩
         have b10 := (k10.block _ (lt_of_heap X.out.2.2.2.2.2) (fun f => f)).trans X.out.2.2.2.2.2
         have b11 := (k10.block _ (lt_of_heap X.out.2.1) (fun f => f)).trans X.out.2.1
         clear g0 gp
         have g0 := blk5 b10
         have gp := blk5 b11
         have kf := keep5 (a0 := .int .u64 fr) (a1 := .int .u64 en) (a2 := .slice pi s.length ci) (a3 := .slice pg gs.length cg) (a4 := .bool lst) w10 w.heap.size
         have HN : Hid (TakGo L w (.returned (.tuple #[.agg #[.int .u64 fr, .int .u64 en, .slice pi s.length ci, .slice pg gs.length cg, .bool lst], .int .i64 0])) (((((w10.setCell ⟨w.heap.size, 0, none⟩ (.int .u64 fr)).setCell ⟨w.heap.size, 1, none⟩ (.int .u64 en)).setCell ⟨w.heap.size, 2, none⟩ (.slice pi s.length ci)).setCell ⟨w.heap.size, 3, none⟩ (.slice pg gs.length cg)).setCell ⟨w.heap.size, 4, none⟩ (.bool lst))) := by
          have oi := (X.out.2.2.1.keeps itF_k k10 (fun _ _ _ f => f)).keeps itF_k kf (fun b h1 h2 e => by omega)
          have og := (X.out.2.2.2.1.old k10).keeps kf (fun b hb e => by have := (X.out.2.2.2.1.block b hb).1; omega)
          refine Lib.hid ⟨fr, en, pi, s.length, ci, s, pg, gs.length, cg, gs, lst, 0, rfl, (X.out.2.2.2.2.1.trans k10).then kf (fun i hi e => by omega), oi.mono' (by omega), og.mono (by omega), ⟨⟨by have := HY.out.2.1.1; omega, by have := HY.out.2.1.2; omega⟩, fun y hy => ?_, fun g hg => by have := HY.out.2.2.2 g hg; omega⟩, Or.inl ⟨HY.out.1, rfl⟩⟩
          have hg := HY.out.2.2.1 y.plain (List.mem_map_of_mem hy)
          have g1 : y.n ≤ 1099511627776 := hg.2.1
          have g2 : y.time ≤ 1099511627776 := hg.2.2
          exact ⟨hg.1, by omega, by omega⟩
         clear k10 b10 b11 kf
         go_wp2_with fail
         exact bodyPost_ret (v := .tuple #[.agg #[.int .u64 fr, .int .u64 en, .slice pi s.length ci, .slice pg gs.length cg, .bool lst], .int .i64 0]) (by simp [results, Tryz.results51, go_sem, g0]) rfl HN.out
end
end Go.Proofs.YtpjpimahnnekkaaGreat
