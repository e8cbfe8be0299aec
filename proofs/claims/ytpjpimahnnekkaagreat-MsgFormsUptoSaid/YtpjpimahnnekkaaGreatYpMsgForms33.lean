/- DERIVED. Chapter 21: msg.read. -/
import Derived.Test.YtpjpimahnnekkaaGreatYpMsgForms32
set_option maxRecDepth 100000
set_option maxHeartbeats 4000000
namespace Go.Proofs.YtpjpimahnnekkaaGreat
section
open Go.RowKit
def pB (l : List UInt8) : Option (List UInt8 × List UInt8) := if (readBytes l 1048576).2.1 = 0 then some ((readBytes l 1048576).1, (readBytes l 1048576).2.2) else none
def pPart {α : Type} (take : List UInt8 → Option α) (l : List UInt8) : Option (α × List UInt8) := (pB l).bind fun x => (take x.1).map fun y => (y, x.2)
theorem OwnN.mono' {α : Type} {w : World} {B B' : Nat} {E : TypeId} {k : Nat} {enc : α → List Value} {nv : α → Value} {fine : α → World → Prop} {v : Value} {l : List α} (h : OwnN w B E k enc nv fine v l) (hb : B' ≤ B) : OwnN w B' E k enc nv fine v l :=
 ⟨h.1.mono hb, fun x hx => ⟨(h.2 x hx).1, fun b hb' => ⟨Nat.le_trans hb ((h.2 x hx).2 b hb').1, ((h.2 x hx).2 b hb').2⟩⟩⟩
theorem readBytes_len (l : List UInt8) (m : Int) : (readBytes l m).1.length ≤ l.length := by
 unfold readBytes
 split
 ·simp
 ·split
  ·simp
  ·split
   ·simp
   ·have := readNum_rest l m.toNat
    simp only [List.length_take]
    omega
theorem mread_pred_any (B qb rb bb : Nat) (st : Option (List UInt8)) (w : World) (h : RQ w B qb rb bb st) :
  Calls Tryz.prog 40 #[.pointer (some ⟨qb, 0, none⟩), .func (.func 41) #[] #[]] w fun e w' => (∃ p n c cs, e = .returned (.slice p n c) ∧ OwnN w' w.heap.size 72 7 Con.cells Con.sv ConF (.slice p n c) cs ∧ (∀ y ∈ cs.map Con.plain, ConG y) ∧ ∀ x, st.bind (pPart takeP) = some x → cs.map Con.plain = x.1) ∧ RQ w' B qb rb bb ((st.bind (pPart takeP)).map (·.2)) ∧ QK qb rb w w' := by
 cases st with
 | none =>
  have H := Lib.hid h
  obtain ⟨⟨h1, h2⟩, e, he, hb⟩ := h
  have g := blk2 hb
  have t : (e != 0) = true := by rw [bne_iff_ne]; exact he
  clear hb he h1 h2
  go_enter Tryz.func40, Tryz.ntmps40
  go_wp2_with fail
  go_ret
  exact ⟨⟨none, 0, 0, [], rfl, OwnN.nil _ _, (fun y hy => by cases hy), fun x hx => by cases hx⟩, H.out, Keeps.refl _ _⟩
 | some l =>
  obtain ⟨⟨h1, h2⟩, hb, hr⟩ := h
  have hl9 : l.length ≤ 1000000000 := hr.2.choose_spec.2.2.1
  have g := blk2 hb
  have C0 := rbytes_any B rb bb l 1048576 w hr (by decide)
  have hlen := readBytes_len l 1048576
  obtain ⟨rn, hrn⟩ : ∃ x, readBytes l 1048576 = x := ⟨_, rfl⟩
  have hpn : pB l = if rn.2.1 = 0 then some (rn.1, rn.2.2) else none := by unfold pB; rw [hrn]
  unfold BytesPost at C0
  rw [hrn] at C0 hlen
  obtain ⟨F, z, r⟩ := rn
  simp only at C0 hpn hlen
  have C := Lib.hid C0
  have H := Lib.hid (And.intro hb hpn)
  clear C0 hrn hpn hr
  go_enter Tryz.func40, Tryz.ntmps40
  go_wp2_with fail
  refine C.out.mono ?_
  rintro e w1 ⟨p1, n1, c1, rfl, ho1, hr1, k1⟩
  have b1 := (k1.block _ (lt_of_heap H.out.1) (fun e => by omega)).trans H.out.1
  have g1 := blk2 b1
  obtain ⟨w2, hw2⟩ : ∃ W, w1.setCell ⟨qb, 1, none⟩ (.int .i64 z) = W := ⟨_, rfl⟩
  have kS : Keeps (fun k => k = qb) w1 w2 := by rw [← hw2]; exact keepS _ (Keeps.refl _ _)
  have b2 : w2.heap[qb]? = some (.cells #[.pointer (some ⟨rb, 0, none⟩), .int .i64 z] 92 (0, 0)) := by
   rw [← hw2]
   have := heap_setCell_same w1 qb 1 _ _ (.int .i64 z) b1
   simpa using this
  have hqlt := lt_of_heap H.out.1
  have ho2 := ho1.sees.keeps kS (fun k hk e => by have := (ho1.block k hk).1; omega)
  have R := Lib.hid (And.intro b2 (And.intro (hr1.far kS (fun k hk => ⟨by omega, by omega⟩)) ((k1.weaken (fun i _ e => Or.inr e) : QK qb rb w w1).then kS (fun i hi e => Or.inl e))))
  have HW2 := Lib.hid hw2
  have CT0 := take_pred_any _ F w2 ho2 (by omega)
  have CT := Lib.hid CT0
  clear hr1 k1 b1 kS b2 g C hw2 ho1 ho2 CT0
  by_cases hz : z = 0
  ·subst hz
   have hpn : pB l = some (F, r) := by rw [H.out.2]; rfl
   have HP := Lib.hid hpn
   clear hpn
   go_upto_region 6 with fail
   have hw := HW2.out
   rw [show ((0 : Nat) : Int) = 0 from rfl] at hw
   rw [hw]
   clear hw
   clear g1
   go_wp2_with fail
   refine CT.out.mono ?_
   rintro e w3 ⟨k3, ht⟩
   obtain ⟨p3, n3, c3, cs, z3, rfl, ho3, hres⟩ : ∃ p n c cs z, e = .returned (.tuple #[.slice p n c, .int .i64 z]) ∧ OwnN w3 w2.heap.size 72 7 Con.cells Con.sv ConF (.slice p n c) cs ∧ ((takeP F = some (cs.map Con.plain) ∧ z = 0) ∨ (takeP F = none ∧ cs = [] ∧ z = 5)) := by
    cases hT : takeP F with
    | none => rw [hT] at ht; subst ht; exact ⟨none, 0, 0, [], 5, rfl, OwnN.nil _ _, Or.inr ⟨rfl, rfl, rfl⟩⟩
    | some x => rw [hT] at ht; obtain ⟨p, n, c, s', rfl, rfl, ho⟩ := ht; exact ⟨p, n, c, s', 0, rfl, ho, Or.inl ⟨rfl, rfl⟩⟩
   have b3 := (k3.block _ (lt_of_heap R.out.1) (fun f => f)).trans R.out.1
   have g3 := blk2 b3
   obtain ⟨w4, hw4⟩ : ∃ W, w3.setCell ⟨qb, 1, none⟩ (.int .i64 z3) = W := ⟨_, rfl⟩
   have kS4 : Keeps (fun k => k = qb) w3 w4 := by rw [← hw4]; exact keepS _ (Keeps.refl _ _)
   have b4 : w4.heap[qb]? = some (.cells #[.pointer (some ⟨rb, 0, none⟩), .int .i64 z3] 92 (0, 0)) := by
    rw [← hw4]
    have := heap_setCell_same w3 qb 1 _ _ (.int .i64 z3) b3
    simpa using this
   have hr4 := (R.out.2.1.old k3).far kS4 (fun k hk => ⟨by omega, by omega⟩)
   have kk4 : QK qb rb w w4 := ((R.out.2.2.then k3 (fun i hi f => f.elim)) : QK qb rb w w3).then kS4 (fun i hi e => Or.inl e)
   have hsz := R.out.2.2.size
   have ho4 := ho3.keeps conF_k kS4 (fun b h1 h2 e => by omega)
   have ho5 : OwnN w4 w.heap.size 72 7 Con.cells Con.sv ConF (.slice p3 n3 c3) cs := ⟨ho4.1.mono hsz, fun x hx => ⟨(ho4.2 x hx).1, fun b hb => ⟨Nat.le_trans hsz ((ho4.2 x hx).2 b hb).1, ((ho4.2 x hx).2 b hb).2⟩⟩⟩
   have R4 := Lib.hid (And.intro b4 (And.intro hr4 (And.intro kk4 (And.intro ho5 hres))))
   have HW4 := Lib.hid hw4
   clear k3 b3 kS4 b4 hr4 kk4 hw4 ho3 ho4 ho5 hres CT
   go_upto_region 8 with fail
   try rw [HW4.out]
   clear g3
   go_wp2_with fail
   go_ret
   have hpp : ((some l).bind (pPart takeP)) = (takeP F).map fun y => (y, r) := by
    simp only [Option.bind_some, pPart, HP.out]
   rw [hpp]
   rcases R4.out.2.2.2.2 with ⟨e1, rfl⟩ | ⟨e1, rfl, rfl⟩
   ·rw [e1]
    exact ⟨⟨p3, n3, c3, cs, rfl, R4.out.2.2.2.1, (pPred_inv (takeP_law e1).2.2.1.choose_spec).1, fun x hx => by simp only [Option.map_some, Option.some.injEq] at hx; rw [← hx]⟩, ⟨⟨h1, h2⟩, R4.out.1, R4.out.2.1⟩, R4.out.2.2.1⟩
   ·rw [e1]
    exact ⟨⟨p3, n3, c3, [], rfl, R4.out.2.2.2.1, (fun y hy => by cases hy), fun x hx => by simp at hx⟩, ⟨⟨h1, h2⟩, 5, by decide, R4.out.1⟩, R4.out.2.2.1⟩
  ·have t : ((z : Int) == 0) = false := by rw [beq_eq_false_iff_ne]; omega
   have hpn : pB l = none := by rw [H.out.2, if_neg hz]
   have HP := Lib.hid (And.intro hpn hz)
   clear hpn hz
   go_upto_region 6 with fail
   try rw [HW2.out]
   clear g1
   go_wp2_with fail
   go_ret
   refine ⟨⟨none, 0, 0, [], rfl, OwnN.nil _ _, (fun y hy => by cases hy), fun x hx => ?_⟩, ?_, R.out.2.2⟩
   ·simp only [Option.bind_some, pPart, HP.out.1, Option.bind_none] at hx
    cases hx
   ·simp only [Option.bind_some, pPart, HP.out.1, Option.bind_none, Option.map_none]
    exact ⟨⟨h1, h2⟩, (z : Int), by have := HP.out.2; omega, R.out.1⟩
theorem mread_item_any (B qb rb bb : Nat) (st : Option (List UInt8)) (w : World) (h : RQ w B qb rb bb st) :
  Calls Tryz.prog 42 #[.pointer (some ⟨qb, 0, none⟩), .func (.func 43) #[] #[]] w fun e w' => (∃ (n tm : Nat) (key : ByteArray) (p : Option Addr) (c d : Nat) (es : List At), e = .returned (.agg #[.int .u64 n, .int .u64 tm, .string key, .slice p c d]) ∧ (OwnsA w' w.heap.size (.slice p c d) es ∧ (n < 18446744073709551616 ∧ tm < 18446744073709551616) ∧ Fits es) ∧ ∀ x, st.bind (pPart takeI) = some x → (⟨n, tm, key, es⟩ : PIt) = x.1) ∧ RQ w' B qb rb bb ((st.bind (pPart takeI)).map (·.2)) ∧ QK qb rb w w' := by
 obtain ⟨W1, hW1⟩ : ∃ W1, (w.alloc (.cells #[.int .u64 0, .int .u64 0, .string ⟨#[]⟩, .slice none 0 0] 29)).alloc (.cells #[.int .u64 0, .int .u64 0, .string ⟨#[]⟩, .slice none 0 0] 29) = W1 := ⟨_, rfl⟩
 have k0 : Old w W1 := by rw [← hW1]; exact ((Keeps.refl _ _).alloc _).alloc _
 obtain ⟨bx, by'⟩ := two_blocks w (.cells #[.int .u64 0, .int .u64 0, .string ⟨#[]⟩, .slice none 0 0] 29) (.cells #[.int .u64 0, .int .u64 0, .string ⟨#[]⟩, .slice none 0 0] 29)
 rw [hW1] at bx by'
 have hz1 : W1.heap.size = w.heap.size + 2 := by rw [← hW1]; simp
 have hqw := h.lt
 have hQ := h.old k0
 have gx := blk4 bx
 have gy := blk4 by'
 have K0 := Lib.hid (And.intro k0 (And.intro bx by'))
 clear h k0 bx by'
 cases st with
 | none =>
  have H := Lib.hid hQ
  obtain ⟨⟨h1, h2⟩, e, he, hb⟩ := hQ
  have g := blk2 hb
  have t : (e != 0) = true := by rw [bne_iff_ne]; exact he
  have kf := keep4 (a0 := .int .u64 0) (a1 := .int .u64 0) (a2 := .string ⟨#[]⟩) (a3 := .slice none 0 0) W1 w.heap.size
  have FIN := Lib.hid (And.intro (H.out.far kf (fun k hk => ⟨by omega, by omega, by omega⟩)) ((K0.out.1.weaken (fun _ _ f => f.elim) : QK qb rb w W1).then kf (fun i hi e => by omega)))
  clear hb he kf
  go_enter Tryz.func42, Tryz.ntmps42
  go_wp2_with fail
  exact bodyPost_ret (v := .agg #[.int .u64 0, .int .u64 0, .string ⟨#[]⟩, .slice none 0 0]) (by simp [results, Tryz.results42, go_sem, gx]) rfl ⟨⟨0, 0, ⟨#[]⟩, none, 0, 0, [], rfl, ⟨OwnsR.nil _ _, ⟨by decide, by decide⟩, fun _ h => (by cases h)⟩, fun x hx => by cases hx⟩, FIN.out.1, FIN.out.2⟩
 | some l =>
  obtain ⟨⟨h1, h2⟩, hb, hr⟩ := hQ
  have hl9 : l.length ≤ 1000000000 := hr.2.choose_spec.2.2.1
  have g := blk2 hb
  have C0 := rbytes_any B rb bb l 1048576 W1 hr (by decide)
  have hlen := readBytes_len l 1048576
  obtain ⟨rn, hrn⟩ : ∃ x, readBytes l 1048576 = x := ⟨_, rfl⟩
  have hpn : pB l = if rn.2.1 = 0 then some (rn.1, rn.2.2) else none := by unfold pB; rw [hrn]
  unfold BytesPost at C0
  rw [hrn] at C0 hlen
  obtain ⟨F, z, r⟩ := rn
  simp only at C0 hpn hlen
  have C := Lib.hid C0
  have H := Lib.hid (And.intro hb hpn)
  clear C0 hrn hpn hr
  go_enter Tryz.func42, Tryz.ntmps42
  go_wp2_with fail
  refine C.out.mono ?_
  rintro e w1 ⟨p1, n1, c1, rfl, ho1, hr1, k1⟩
  have b1 := (k1.block _ (lt_of_heap H.out.1) (fun e => by omega)).trans H.out.1
  have bx1 := (k1.block _ (lt_of_heap K0.out.2.1) (fun e => by omega)).trans K0.out.2.1
  have by1 := (k1.block _ (lt_of_heap K0.out.2.2) (fun e => by omega)).trans K0.out.2.2
  have g1 := blk2 b1
  clear gx gy
  have gx1 := blk4 bx1
  have gy1 := blk4 by1
  obtain ⟨w2, hw2⟩ : ∃ W, w1.setCell ⟨qb, 1, none⟩ (.int .i64 z) = W := ⟨_, rfl⟩
  have kS : Keeps (fun k => k = qb) w1 w2 := by rw [← hw2]; exact keepS _ (Keeps.refl _ _)
  have b2 : w2.heap[qb]? = some (.cells #[.pointer (some ⟨rb, 0, none⟩), .int .i64 z] 92 (0, 0)) := by
   rw [← hw2]
   have := heap_setCell_same w1 qb 1 _ _ (.int .i64 z) b1
   simpa using this
  have bx2 := (kS.block _ (lt_of_heap bx1) (fun e => by omega)).trans bx1
  have by2 := (kS.block _ (lt_of_heap by1) (fun e => by omega)).trans by1
  have hqlt := lt_of_heap H.out.1
  have ho2 := ho1.sees.keeps kS (fun k hk e => by have := (ho1.block k hk).1; omega)
  have R := Lib.hid (And.intro b2 (And.intro (hr1.far kS (fun k hk => ⟨by omega, by omega⟩)) (And.intro (((K0.out.1.weaken (fun _ _ f => f.elim) : QK qb rb w W1).trans (k1.weaken (fun i _ e => Or.inr e))).then kS (fun i hi e => Or.inl e)) (And.intro bx2 by2))))
  have hzz1 := k1.size
  have HW2 := Lib.hid hw2
  have CT0 := take_item_any _ F w2 ho2 (by omega)
  have CT := Lib.hid CT0
  clear hr1 k1 b1 kS b2 g C hw2 ho1 ho2 CT0 bx1 by1 bx2 by2
  by_cases hz : z = 0
  ·subst hz
   have hpn : pB l = some (F, r) := by rw [H.out.2]; rfl
   have HP := Lib.hid hpn
   clear hpn
   go_upto_region 6 with fail
   have hw := HW2.out
   rw [show ((0 : Nat) : Int) = 0 from rfl] at hw
   rw [hw]
   clear hw g1 gx1 gy1
   go_wp2_with fail
   refine CT.out.mono ?_
   rintro e w3 ⟨k3, ht⟩
   obtain ⟨n, tm, key, p, c, d, es, z3, rfl, ho3, hres⟩ : ∃ (n tm : Nat) (key : ByteArray) (p : Option Addr) (c d : Nat) (es : List At), ∃ z : Int, e = .returned (.tuple #[.agg #[.int .u64 n, .int .u64 tm, .string key, .slice p c d], .int .i64 z]) ∧ (OwnsA w3 w2.heap.size (.slice p c d) es ∧ (n < 18446744073709551616 ∧ tm < 18446744073709551616) ∧ Fits es) ∧ ((takeI F = some ((⟨n, tm, key, es⟩ : PIt)) ∧ z = 0) ∨ (takeI F = none ∧ z = 5)) := by
    cases hT : takeI F with
    | none => rw [hT] at ht; subst ht; exact ⟨0, 0, ⟨#[]⟩, none, 0, 0, [], 5, rfl, ⟨OwnsR.nil _ _, ⟨by decide, by decide⟩, fun _ h => (by cases h)⟩, Or.inr ⟨rfl, rfl⟩⟩
    | some x => rw [hT] at ht; obtain ⟨p, n, c, rfl, ho⟩ := ht; obtain ⟨_, _, ⟨rr, h3⟩, _⟩ := takeI_law hT; obtain ⟨g1, g2, g3, _⟩ := pItem_inv h3; exact ⟨x.n, x.time, x.key, p, n, c, x.es, 0, rfl, ⟨ho, ⟨by omega, by omega⟩, g1⟩, Or.inl ⟨rfl, rfl⟩⟩
   have b3 := (k3.block _ (lt_of_heap R.out.1) (fun f => f)).trans R.out.1
   have bx3 := (k3.block _ (lt_of_heap R.out.2.2.2.1) (fun f => f)).trans R.out.2.2.2.1
   have by3 := (k3.block _ (lt_of_heap R.out.2.2.2.2) (fun f => f)).trans R.out.2.2.2.2
   have hsz := R.out.2.2.1.size
   have hsz2 := lt_of_heap R.out.2.2.2.2
   have gy3 := blk4 by3
   obtain ⟨s1, hs1⟩ : ∃ W, (((w3.setCell ⟨w.heap.size + 1, 0, none⟩ (.int .u64 n)).setCell ⟨w.heap.size + 1, 1, none⟩ (.int .u64 tm)).setCell ⟨w.heap.size + 1, 2, none⟩ (.string key)).setCell ⟨w.heap.size + 1, 3, none⟩ (.slice p c d) = W := ⟨_, rfl⟩
   have kY : Keeps (fun k => k = w.heap.size + 1) w3 s1 := by rw [← hs1]; exact keep4 _ _
   have by4 : s1.heap[w.heap.size + 1]? = some (.cells #[.int .u64 n, .int .u64 tm, .string key, .slice p c d] 29 (0, 0)) := by rw [← hs1]; exact set4 by3
   have bq4 := (kY.block _ (lt_of_heap b3) (fun e => by omega)).trans b3
   have bx4 := (kY.block _ (lt_of_heap bx3) (fun e => by omega)).trans bx3
   have gq := blk2 bq4
   obtain ⟨s2, hs2⟩ : ∃ W, s1.setCell ⟨qb, 1, none⟩ (.int .i64 z3) = W := ⟨_, rfl⟩
   have kQ : Keeps (fun k => k = qb) s1 s2 := by rw [← hs2]; exact keepS _ (Keeps.refl _ _)
   have bq5 : s2.heap[qb]? = some (.cells #[.pointer (some ⟨rb, 0, none⟩), .int .i64 z3] 92 (0, 0)) := by
    rw [← hs2]
    have := heap_setCell_same s1 qb 1 _ _ (.int .i64 z3) bq4
    simpa using this
   have bx5 := (kQ.block _ (lt_of_heap bx4) (fun e => by omega)).trans bx4
   have by5 := (kQ.block _ (lt_of_heap by4) (fun e => by omega)).trans by4
   have gx5 := blk4 bx5
   have gy5 := blk4 by5
   have kX := keep4 (a0 := .int .u64 n) (a1 := .int .u64 tm) (a2 := .string key) (a3 := .slice p c d) s2 w.heap.size
   have hr5 := (((R.out.2.1.old k3).far kY (fun k hk => ⟨by omega, by omega⟩)).far kQ (fun k hk => ⟨by omega, by omega⟩)).far kX (fun k hk => ⟨by omega, by omega⟩)
   have bq6 := (kX.block _ (lt_of_heap bq5) (fun e => by omega)).trans bq5
   have kk := ((((R.out.2.2.1.then k3 (fun i hi f => f.elim)) : QK qb rb w w3).then kY (fun i hi e => by omega)).then kQ (fun i hi e => Or.inl e)).then kX (fun i hi e => by omega)
   have ho5 := And.intro ((((ho3.1.keeps kY (fun b hb e => by have := (ho3.1.block b hb).1; omega)).keeps kQ (fun b hb e => by have := (ho3.1.block b hb).1; omega)).keeps kX (fun b hb e => by have := (ho3.1.block b hb).1; omega)).mono (B' := w.heap.size) (by omega)) ho3.2
   have FIN := Lib.hid (And.intro bq6 (And.intro hr5 (And.intro kk (And.intro ho5 hres))))
   have gqc := blk2 (bq4)
   rw [← hs1] at gqc
   have HS1 := Lib.hid hs1
   have HS2 := Lib.hid hs2
   clear k3 b3 bx3 kY by4 bq4 bx4 kQ bq5 bx5 by5 kX hr5 bq6 kk ho3 ho5 hres CT hs1 hs2
   go_upto_region 8 with fail
   rw [HS1.out, HS2.out]
   clear gy3 gq by3 gqc
   go_wp2_with fail
   refine bodyPost_ret (v := .agg #[.int .u64 n, .int .u64 tm, .string key, .slice p c d]) (by simp [results, Tryz.results42, go_sem, gx5]) rfl ?_
   have hpp : ((some l).bind (pPart takeI)) = (takeI F).map fun y => (y, r) := by
    simp only [Option.bind_some, pPart, HP.out]
   rw [hpp]
   rcases FIN.out.2.2.2.2 with ⟨e1, rfl⟩ | ⟨e1, rfl⟩
   ·rw [e1]
    exact ⟨⟨n, tm, key, p, c, d, es, rfl, FIN.out.2.2.2.1, fun x hx => by simp only [Option.map_some, Option.some.injEq] at hx; rw [← hx]⟩, ⟨⟨h1, h2⟩, FIN.out.1, FIN.out.2.1⟩, FIN.out.2.2.1⟩
   ·rw [e1]
    exact ⟨⟨n, tm, key, p, c, d, es, rfl, FIN.out.2.2.2.1, fun x hx => by simp at hx⟩, ⟨⟨h1, h2⟩, 5, by decide, FIN.out.1⟩, FIN.out.2.2.1⟩
  ·have t : ((z : Int) == 0) = false := by rw [beq_eq_false_iff_ne]; omega
   have hpn : pB l = none := by rw [H.out.2, if_neg hz]
   have HP := Lib.hid (And.intro hpn hz)
   have gx2 := blk4 R.out.2.2.2.1
   have gy2 := blk4 R.out.2.2.2.2
   have kf := keep4 (a0 := .int .u64 0) (a1 := .int .u64 0) (a2 := .string ⟨#[]⟩) (a3 := .slice none 0 0) w2 w.heap.size
   have b9 := (kf.block _ (lt_of_heap R.out.1) (fun e => by omega)).trans R.out.1
   have FIN := Lib.hid (And.intro b9 (R.out.2.2.1.then kf (fun i hi e => by omega)))
   clear hpn hz kf b9
   go_upto_region 6 with fail
   try rw [HW2.out]
   clear g1 gx1 gy1
   go_wp2_with fail
   refine bodyPost_ret (v := .agg #[.int .u64 0, .int .u64 0, .string ⟨#[]⟩, .slice none 0 0]) (by simp [results, Tryz.results42, go_sem, gx2]) rfl ?_
   refine ⟨⟨0, 0, ⟨#[]⟩, none, 0, 0, [], rfl, ⟨OwnsR.nil _ _, ⟨by decide, by decide⟩, fun _ h => (by cases h)⟩, fun x hx => ?_⟩, ?_, FIN.out.2⟩
   ·simp only [Option.bind_some, pPart, HP.out.1, Option.bind_none] at hx
    cases hx
   ·simp only [Option.bind_some, pPart, HP.out.1, Option.bind_none, Option.map_none]
    exact ⟨⟨h1, h2⟩, (z : Int), by have := HP.out.2; omega, FIN.out.1⟩
theorem mread_page_any (B qb rb bb : Nat) (st : Option (List UInt8)) (w : World) (h : RQ w B qb rb bb st) :
  Calls Tryz.prog 44 #[.pointer (some ⟨qb, 0, none⟩), .func (.func 45) #[] #[]] w fun e w' => (∃ (fr en : Nat) (p : Option Addr) (c d : Nat) (its : List It) (q : Option Addr) (f g9 : Nat) (gs : List PGap) (last : Bool), e = .returned (.agg #[.int .u64 fr, .int .u64 en, .slice p c d, .slice q f g9, .bool last]) ∧ ((OwnN w' w.heap.size 29 4 It.cells It.av ItF (.slice p c d) its ∧ OwnsR w' w.heap.size 121 2 gapL (.slice q f g9) gs) ∧ ((fr < 18446744073709551616 ∧ en < 18446744073709551616) ∧ (∀ y ∈ its, Fits y.es ∧ y.n < 18446744073709551616 ∧ y.time < 18446744073709551616) ∧ ∀ g ∈ gs, g.1 < 18446744073709551616 ∧ g.2 < 18446744073709551616)) ∧ ∀ x, st.bind (pPart takeG) = some x → (⟨fr, en, its.map It.plain, gs, last⟩ : PPg) = x.1) ∧ RQ w' B qb rb bb ((st.bind (pPart takeG)).map (·.2)) ∧ QK qb rb w w' := by
 obtain ⟨W1, hW1⟩ : ∃ W1, (w.alloc (.cells #[.int .u64 0, .int .u64 0, .slice none 0 0, .slice none 0 0, .bool false] 35)).alloc (.cells #[.int .u64 0, .int .u64 0, .slice none 0 0, .slice none 0 0, .bool false] 35) = W1 := ⟨_, rfl⟩
 have k0 : Old w W1 := by rw [← hW1]; exact ((Keeps.refl _ _).alloc _).alloc _
 obtain ⟨bx, by'⟩ := two_blocks w (.cells #[.int .u64 0, .int .u64 0, .slice none 0 0, .slice none 0 0, .bool false] 35) (.cells #[.int .u64 0, .int .u64 0, .slice none 0 0, .slice none 0 0, .bool false] 35)
 rw [hW1] at bx by'
 have hz1 : W1.heap.size = w.heap.size + 2 := by rw [← hW1]; simp
 have hqw := h.lt
 have hQ := h.old k0
 have gx := blk5 bx
 have gy := blk5 by'
 have K0 := Lib.hid (And.intro k0 (And.intro bx by'))
 clear h k0 bx by'
 cases st with
 | none =>
  have H := Lib.hid hQ
  obtain ⟨⟨h1, h2⟩, e, he, hb⟩ := hQ
  have g := blk2 hb
  have t : (e != 0) = true := by rw [bne_iff_ne]; exact he
  have kf := keep5 (a0 := .int .u64 0) (a1 := .int .u64 0) (a2 := .slice none 0 0) (a3 := .slice none 0 0) (a4 := .bool false) W1 w.heap.size
  have FIN := Lib.hid (And.intro (H.out.far kf (fun k hk => ⟨by omega, by omega, by omega⟩)) ((K0.out.1.weaken (fun _ _ f => f.elim) : QK qb rb w W1).then kf (fun i hi e => by omega)))
  clear hb he kf
  go_enter Tryz.func44, Tryz.ntmps44
  go_wp2_with fail
  exact bodyPost_ret (v := .agg #[.int .u64 0, .int .u64 0, .slice none 0 0, .slice none 0 0, .bool false]) (by simp [results, Tryz.results44, go_sem, gx]) rfl ⟨⟨0, 0, none, 0, 0, [], none, 0, 0, [], false, rfl, ⟨⟨OwnN.nil _ _, OwnsR.nil _ _⟩, ⟨by decide, by decide⟩, fun _ h => (by cases h), fun _ h => (by cases h)⟩, fun x hx => by cases hx⟩, FIN.out.1, FIN.out.2⟩
 | some l =>
  obtain ⟨⟨h1, h2⟩, hb, hr⟩ := hQ
  have hl9 : l.length ≤ 1000000000 := hr.2.choose_spec.2.2.1
  have g := blk2 hb
  have C0 := rbytes_any B rb bb l 1048576 W1 hr (by decide)
  have hlen := readBytes_len l 1048576
  obtain ⟨rn, hrn⟩ : ∃ x, readBytes l 1048576 = x := ⟨_, rfl⟩
  have hpn : pB l = if rn.2.1 = 0 then some (rn.1, rn.2.2) else none := by unfold pB; rw [hrn]
  unfold BytesPost at C0
  rw [hrn] at C0 hlen
  obtain ⟨F, z, r⟩ := rn
  simp only at C0 hpn hlen
  have C := Lib.hid C0
  have H := Lib.hid (And.intro hb hpn)
  clear C0 hrn hpn hr
  go_enter Tryz.func44, Tryz.ntmps44
  go_wp2_with fail
  refine C.out.mono ?_
  rintro e w1 ⟨p1, n1, c1, rfl, ho1, hr1, k1⟩
  have b1 := (k1.block _ (lt_of_heap H.out.1) (fun e => by omega)).trans H.out.1
  have bx1 := (k1.block _ (lt_of_heap K0.out.2.1) (fun e => by omega)).trans K0.out.2.1
  have by1 := (k1.block _ (lt_of_heap K0.out.2.2) (fun e => by omega)).trans K0.out.2.2
  have g1 := blk2 b1
  clear gx gy
  have gx1 := blk5 bx1
  have gy1 := blk5 by1
  obtain ⟨w2, hw2⟩ : ∃ W, w1.setCell ⟨qb, 1, none⟩ (.int .i64 z) = W := ⟨_, rfl⟩
  have kS : Keeps (fun k => k = qb) w1 w2 := by rw [← hw2]; exact keepS _ (Keeps.refl _ _)
  have b2 : w2.heap[qb]? = some (.cells #[.pointer (some ⟨rb, 0, none⟩), .int .i64 z] 92 (0, 0)) := by
   rw [← hw2]
   have := heap_setCell_same w1 qb 1 _ _ (.int .i64 z) b1
   simpa using this
  have bx2 := (kS.block _ (lt_of_heap bx1) (fun e => by omega)).trans bx1
  have by2 := (kS.block _ (lt_of_heap by1) (fun e => by omega)).trans by1
  have hqlt := lt_of_heap H.out.1
  have ho2 := ho1.sees.keeps kS (fun k hk e => by have := (ho1.block k hk).1; omega)
  have R := Lib.hid (And.intro b2 (And.intro (hr1.far kS (fun k hk => ⟨by omega, by omega⟩)) (And.intro (((K0.out.1.weaken (fun _ _ f => f.elim) : QK qb rb w W1).trans (k1.weaken (fun i _ e => Or.inr e))).then kS (fun i hi e => Or.inl e)) (And.intro bx2 by2))))
  have hzz1 := k1.size
  have HW2 := Lib.hid hw2
  have CT0 := take_page_any _ F w2 ho2 (by omega)
  have CT := Lib.hid CT0
  clear hr1 k1 b1 kS b2 g C hw2 ho1 ho2 CT0 bx1 by1 bx2 by2
  by_cases hz : z = 0
  ·subst hz
   have hpn : pB l = some (F, r) := by rw [H.out.2]; rfl
   have HP := Lib.hid hpn
   clear hpn
   go_upto_region 6 with fail
   have hw := HW2.out
   rw [show ((0 : Nat) : Int) = 0 from rfl] at hw
   rw [hw]
   clear hw g1 gx1 gy1
   go_wp2_with fail
   refine CT.out.mono ?_
   rintro e w3 ⟨k3, ht⟩
   obtain ⟨fr, en, p, c, d, its, q, f, g9, gs, last, z3, rfl, ho3, hres⟩ : ∃ (fr en : Nat) (p : Option Addr) (c d : Nat) (its : List It) (q : Option Addr) (f g9 : Nat) (gs : List PGap) (last : Bool), ∃ z : Int, e = .returned (.tuple #[.agg #[.int .u64 fr, .int .u64 en, .slice p c d, .slice q f g9, .bool last], .int .i64 z]) ∧ ((OwnN w3 w2.heap.size 29 4 It.cells It.av ItF (.slice p c d) its ∧ OwnsR w3 w2.heap.size 121 2 gapL (.slice q f g9) gs) ∧ ((fr < 18446744073709551616 ∧ en < 18446744073709551616) ∧ (∀ y ∈ its, Fits y.es ∧ y.n < 18446744073709551616 ∧ y.time < 18446744073709551616) ∧ ∀ g ∈ gs, g.1 < 18446744073709551616 ∧ g.2 < 18446744073709551616)) ∧ ((takeG F = some ((⟨fr, en, its.map It.plain, gs, last⟩ : PPg)) ∧ z = 0) ∨ (takeG F = none ∧ z = 5)) := by
    cases hT : takeG F with
    | none => rw [hT] at ht; subst ht; exact ⟨0, 0, none, 0, 0, [], none, 0, 0, [], false, 5, rfl, ⟨⟨OwnN.nil _ _, OwnsR.nil _ _⟩, ⟨by decide, by decide⟩, fun _ h => (by cases h), fun _ h => (by cases h)⟩, Or.inr ⟨rfl, rfl⟩⟩
    | some x => rw [hT] at ht; obtain ⟨p, n, c, pg, ng, cg, s', rfl, hs, ho⟩ := ht; obtain ⟨_, _, ⟨rr, h3⟩, _⟩ := takeG_law hT; obtain ⟨hb1, hfit, hgf, _⟩ := pPage_inv h3; obtain ⟨xfr, xen, xits, xgs, xlast⟩ := x; simp only at hb1 hfit hgf hs ho; exact ⟨xfr, xen, p, n, c, s', pg, ng, cg, xgs, xlast, 0, rfl, ⟨⟨ho.1, ho.2⟩, ⟨by omega, by omega⟩, fun y hy => (by have hg := hfit y.plain (by rw [← hs]; exact List.mem_map_of_mem hy); have g1 : y.n ≤ 1099511627776 := hg.2.1; have g2 : y.time ≤ 1099511627776 := hg.2.2; exact ⟨hg.1, by omega, by omega⟩), fun g hg => (by have := hgf g hg; omega)⟩, Or.inl ⟨by rw [hs], rfl⟩⟩
   have b3 := (k3.block _ (lt_of_heap R.out.1) (fun f => f)).trans R.out.1
   have bx3 := (k3.block _ (lt_of_heap R.out.2.2.2.1) (fun f => f)).trans R.out.2.2.2.1
   have by3 := (k3.block _ (lt_of_heap R.out.2.2.2.2) (fun f => f)).trans R.out.2.2.2.2
   have hsz := R.out.2.2.1.size
   have hsz2 := lt_of_heap R.out.2.2.2.2
   have gy3 := blk5 by3
   obtain ⟨s1, hs1⟩ : ∃ W, ((((w3.setCell ⟨w.heap.size + 1, 0, none⟩ (.int .u64 fr)).setCell ⟨w.heap.size + 1, 1, none⟩ (.int .u64 en)).setCell ⟨w.heap.size + 1, 2, none⟩ (.slice p c d)).setCell ⟨w.heap.size + 1, 3, none⟩ (.slice q f g9)).setCell ⟨w.heap.size + 1, 4, none⟩ (.bool last) = W := ⟨_, rfl⟩
   have kY : Keeps (fun k => k = w.heap.size + 1) w3 s1 := by rw [← hs1]; exact keep5 _ _
   have by4 : s1.heap[w.heap.size + 1]? = some (.cells #[.int .u64 fr, .int .u64 en, .slice p c d, .slice q f g9, .bool last] 35 (0, 0)) := by rw [← hs1]; exact set5 by3
   have bq4 := (kY.block _ (lt_of_heap b3) (fun e => by omega)).trans b3
   have bx4 := (kY.block _ (lt_of_heap bx3) (fun e => by omega)).trans bx3
   have gq := blk2 bq4
   obtain ⟨s2, hs2⟩ : ∃ W, s1.setCell ⟨qb, 1, none⟩ (.int .i64 z3) = W := ⟨_, rfl⟩
   have kQ : Keeps (fun k => k = qb) s1 s2 := by rw [← hs2]; exact keepS _ (Keeps.refl _ _)
   have bq5 : s2.heap[qb]? = some (.cells #[.pointer (some ⟨rb, 0, none⟩), .int .i64 z3] 92 (0, 0)) := by
    rw [← hs2]
    have := heap_setCell_same s1 qb 1 _ _ (.int .i64 z3) bq4
    simpa using this
   have bx5 := (kQ.block _ (lt_of_heap bx4) (fun e => by omega)).trans bx4
   have by5 := (kQ.block _ (lt_of_heap by4) (fun e => by omega)).trans by4
   have gx5 := blk5 bx5
   have gy5 := blk5 by5
   have kX := keep5 (a0 := .int .u64 fr) (a1 := .int .u64 en) (a2 := .slice p c d) (a3 := .slice q f g9) (a4 := .bool last) s2 w.heap.size
   have hr5 := (((R.out.2.1.old k3).far kY (fun k hk => ⟨by omega, by omega⟩)).far kQ (fun k hk => ⟨by omega, by omega⟩)).far kX (fun k hk => ⟨by omega, by omega⟩)
   have bq6 := (kX.block _ (lt_of_heap bq5) (fun e => by omega)).trans bq5
   have kk := ((((R.out.2.2.1.then k3 (fun i hi f => f.elim)) : QK qb rb w w3).then kY (fun i hi e => by omega)).then kQ (fun i hi e => Or.inl e)).then kX (fun i hi e => by omega)
   have ho5 := And.intro (And.intro ((((ho3.1.1.keeps itF_k kY (fun b h1 h2 e => by omega)).keeps itF_k kQ (fun b h1 h2 e => by omega)).keeps itF_k kX (fun b h1 h2 e => by omega)).mono' (B' := w.heap.size) (by omega)) ((((ho3.1.2.keeps kY (fun b hb e => by have := (ho3.1.2.block b hb).1; omega)).keeps kQ (fun b hb e => by have := (ho3.1.2.block b hb).1; omega)).keeps kX (fun b hb e => by have := (ho3.1.2.block b hb).1; omega)).mono (B' := w.heap.size) (by omega))) ho3.2
   have FIN := Lib.hid (And.intro bq6 (And.intro hr5 (And.intro kk (And.intro ho5 hres))))
   have gqc := blk2 (bq4)
   rw [← hs1] at gqc
   have HS1 := Lib.hid hs1
   have HS2 := Lib.hid hs2
   clear k3 b3 bx3 kY by4 bq4 bx4 kQ bq5 bx5 by5 kX hr5 bq6 kk ho3 ho5 hres CT hs1 hs2
   go_upto_region 8 with fail
   rw [HS1.out, HS2.out]
   clear gy3 gq by3 gqc
   go_wp2_with fail
   refine bodyPost_ret (v := .agg #[.int .u64 fr, .int .u64 en, .slice p c d, .slice q f g9, .bool last]) (by simp [results, Tryz.results44, go_sem, gx5]) rfl ?_
   have hpp : ((some l).bind (pPart takeG)) = (takeG F).map fun y => (y, r) := by
    simp only [Option.bind_some, pPart, HP.out]
   rw [hpp]
   rcases FIN.out.2.2.2.2 with ⟨e1, rfl⟩ | ⟨e1, rfl⟩
   ·rw [e1]
    exact ⟨⟨fr, en, p, c, d, its, q, f, g9, gs, last, rfl, FIN.out.2.2.2.1, fun x hx => by simp only [Option.map_some, Option.some.injEq] at hx; rw [← hx]⟩, ⟨⟨h1, h2⟩, FIN.out.1, FIN.out.2.1⟩, FIN.out.2.2.1⟩
   ·rw [e1]
    exact ⟨⟨fr, en, p, c, d, its, q, f, g9, gs, last, rfl, FIN.out.2.2.2.1, fun x hx => by simp at hx⟩, ⟨⟨h1, h2⟩, 5, by decide, FIN.out.1⟩, FIN.out.2.2.1⟩
  ·have t : ((z : Int) == 0) = false := by rw [beq_eq_false_iff_ne]; omega
   have hpn : pB l = none := by rw [H.out.2, if_neg hz]
   have HP := Lib.hid (And.intro hpn hz)
   have gx2 := blk5 R.out.2.2.2.1
   have gy2 := blk5 R.out.2.2.2.2
   have kf := keep5 (a0 := .int .u64 0) (a1 := .int .u64 0) (a2 := .slice none 0 0) (a3 := .slice none 0 0) (a4 := .bool false) w2 w.heap.size
   have b9 := (kf.block _ (lt_of_heap R.out.1) (fun e => by omega)).trans R.out.1
   have FIN := Lib.hid (And.intro b9 (R.out.2.2.1.then kf (fun i hi e => by omega)))
   clear hpn hz kf b9
   go_upto_region 6 with fail
   try rw [HW2.out]
   clear g1 gx1 gy1
   go_wp2_with fail
   refine bodyPost_ret (v := .agg #[.int .u64 0, .int .u64 0, .slice none 0 0, .slice none 0 0, .bool false]) (by simp [results, Tryz.results44, go_sem, gx2]) rfl ?_
   refine ⟨⟨0, 0, none, 0, 0, [], none, 0, 0, [], false, rfl, ⟨⟨OwnN.nil _ _, OwnsR.nil _ _⟩, ⟨by decide, by decide⟩, fun _ h => (by cases h), fun _ h => (by cases h)⟩, fun x hx => ?_⟩, ?_, FIN.out.2⟩
   ·simp only [Option.bind_some, pPart, HP.out.1, Option.bind_none] at hx
    cases hx
   ·simp only [Option.bind_some, pPart, HP.out.1, Option.bind_none, Option.map_none]
    exact ⟨⟨h1, h2⟩, (z : Int), by have := HP.out.2; omega, FIN.out.1⟩
end
end Go.Proofs.YtpjpimahnnekkaaGreat
