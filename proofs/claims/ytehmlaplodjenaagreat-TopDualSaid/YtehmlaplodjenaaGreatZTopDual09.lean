/- DERIVED. cover: Region.Empty. · DERIVED. cover: Region.Minus. -/
import Derived.Test.YtehmlaplodjenaaGreatZTopDual03
import Derived.Test.YtehmlaplodjenaaGreatZTopDual08
import Derived.Deep.DeepCutAuto
set_option maxRecDepth 100000
set_option maxHeartbeats 4000000
namespace Go.Proofs.YtehmlaplodjenaaGreat
section
open Go.RowKit
def SeesG (w : World) (v : Value) (r : Rg) : Prop :=
 ∃ p0 n0 c0 p1 n1 c1 p2 n2 c2, v = .agg #[.slice p0 n0 c0, .slice p1 n1 c1, .slice p2 n2 c2, .bool r.odd] ∧
  SeesR w 4 spanL (.slice p0 n0 c0) r.a ∧ SeesR w 4 spanL (.slice p1 n1 c1) r.b ∧ SeesR w 4 spanL (.slice p2 n2 c2) r.c
theorem SeesG.old {w w' : World} {v : Value} {r : Rg} (h : SeesG w v r) (k : Old w w') : SeesG w' v r := by
 obtain ⟨p0, n0, c0, p1, n1, c1, p2, n2, c2, e, h1, h2, h3⟩ := h
 exact ⟨p0, n0, c0, p1, n1, c1, p2, n2, c2, e, h1.old k, h2.old k, h3.old k⟩
def lenPos : Value → Bool
 | .slice _ n _ => decide (0 < n)
 | _ => false
theorem lenPos_of {w : World} {p : Option Addr} {n c : Nat} {l : List Span} (h : SeesR w 4 spanL (.slice p n c) l) : lenPos (.slice p n c) = !l.isEmpty := by
 obtain ⟨p', c', e, _, _⟩ := h.len
 simp only [Value.slice.injEq] at e
 obtain ⟨_, rfl, _⟩ := e
 cases l <;> simp [lenPos]
theorem empty1_any (p : Option Addr) (n c : Nat) (w : World) : Calls Tryz.prog 140 #[.slice p n c] w fun e w' => e = .returned (.bool (lenPos (.slice p n c))) ∧ Old w w' := by
 have e0 : lenPos (.slice p n c) = decide (0 < n) := rfl
 rw [e0]
 clear e0
 go_enter Tryz.func140, Tryz.ntmps140
 by_cases hn : 0 < n
 ·go_wp2_with fail
  go_ret
  exact ⟨by simp [hn], Keeps.refl _ _⟩
 ·go_wp2_with fail
  go_ret
  exact ⟨by simp [hn], Keeps.refl _ _⟩
theorem empty_any (v : Value) (r : Rg) (w : World) (h : SeesG w v r) : Calls Tryz.prog 84 #[v] w fun e w' => e = .returned (.bool (emptyR r)) ∧ Old w w' := by
 obtain ⟨ra, rb, rc, ro⟩ := r
 obtain ⟨p0, n0, c0, p1, n1, c1, p2, n2, c2, rfl, h1, h2, h3⟩ := h
 simp only at h1 h2 h3 ⊢
 have hany : ([.slice p0 n0 c0, .slice p1 n1 c1, .slice p2 n2 c2] : List Value).any lenPos = !(ra.isEmpty && (rb.isEmpty && rc.isEmpty)) := by
  simp only [List.any_cons, List.any_nil, lenPos_of h1, lenPos_of h2, lenPos_of h3]
  cases ra.isEmpty <;> cases rb.isEmpty <;> cases rc.isEmpty <;> rfl
 obtain ⟨W0, hW0⟩ : ∃ W0, w.alloc (.cells #[.slice p0 n0 c0, .slice p1 n1 c1, .slice p2 n2 c2, .bool ro] 102) = W0 := ⟨_, rfl⟩
 have o0 : Old w W0 := by rw [← hW0]; exact (Keeps.refl _ _).alloc _
 have b0 : W0.heap[w.heap.size]? = some (.cells #[.slice p0 n0 c0, .slice p1 n1 c1, .slice p2 n2 c2, .bool ro] 102 (0, 0)) := by rw [← hW0]; exact heap_alloc_new _ _
 have r0 := blk4 b0
 have SN : SeesR W0 1 encV1 (.slice (some ⟨w.heap.size, 0, none⟩) 3 3) [.slice p0 n0 c0, .slice p1 n1 c1, .slice p2 n2 c2] := by
  refine ⟨some ⟨w.heap.size, 0, none⟩, 3, rfl, by simp, by unfold maxLen; simp, by simp, fun a ha => ?_⟩
  simp only [Option.some.injEq] at ha
  subst ha
  refine ⟨fun _ => rfl, fun j x hj i u hu => ?_⟩
  match j, i with
  | 0, 0 => simp at hj hu; subst hj; subst hu; simpa [Addr.add] using r0.1.1
  | 1, 0 => simp at hj hu; subst hj; subst hu; simpa [Addr.add] using r0.1.2.1
  | 2, 0 => simp at hj hu; subst hj; subst hu; simpa [Addr.add] using r0.1.2.2.1
  | j + 3, _ => simp at hj
  | _, i + 1 => simp at hu
 have C := Lib.hid (cff_spans lenPos (.func (.func 140) #[] #[]) _ _ W0 SN
  ⟨_, _, _, rfl, fun args W => by simp [go_sem, callFunc, Tryz.func140]; rfl, fun x hx W hW => by
   simp at hx
   rcases hx with rfl | rfl | rfl <;> exact empty1_any _ _ _ W⟩)
 have O := Lib.hid o0
 have HW := Lib.hid hW0
 have HA := Lib.hid hany
 clear o0 b0 hW0 SN h1 h2 h3 hany
 go_enter Tryz.func84, Tryz.ntmps84
 cases ro
 ·go_upto_region 1 with fail
  rw [HW.out]
  go_wp2_with fail
  refine C.out.mono ?_
  rintro e w1 ⟨rfl, o1⟩
  have O1 := Lib.hid (O.out.trans o1)
  clear o1
  have E := Lib.hid (show emptyR ⟨ra, rb, rc, false⟩ = !([.slice p0 n0 c0, .slice p1 n1 c1, .slice p2 n2 c2] : List Value).any lenPos by rw [HA.out]; simp [emptyR])
  cases hany : ([.slice p0 n0 c0, .slice p1 n1 c1, .slice p2 n2 c2] : List Value).any lenPos <;> rw [hany] at E <;> clear hany
  ·go_wp2_with fail
   go_ret
   exact ⟨by rw [E.out]; rfl, O1.out⟩
  ·go_wp2_with fail
   go_ret
   exact ⟨by rw [E.out]; rfl, O1.out⟩
 ·go_upto_region 1 with fail
  rw [HW.out]
  go_wp2_with fail
  go_ret
  exact ⟨rfl, O.out⟩
end
section
open Go.RowKit
theorem SeesR.keepsN {α : Type} {k : Nat} {enc : α → List Value} {v : Value} {l : List α} {S : Nat → Prop} {w w' : World} (h : SeesR w k enc v l) (hk : Keeps S w w') (hS : 0 < l.length → ∀ b, v.ownBlock = some b → ¬ S b) : SeesR w' k enc v l := by
 cases l with
 | nil =>
  obtain ⟨p, c, h1, h2, h3, h4, h5⟩ := h
  exact ⟨p, c, h1, h2, h3, h4, fun a ha => ⟨(h5 a ha).1, fun i x hx => by simp at hx⟩⟩
 | cons x l => exact h.keeps hk (hS (by simp))
theorem reg_ne {w : World} {bx : Nat} {p0 p1 p2 : Option Addr} {n0 c0 n1 c1 n2 c2 : Nat} {od : Bool} {t : TypeId} (h : w.heap[bx]? = some (.cells #[.slice p0 n0 c0, .slice p1 n1 c1, .slice p2 n2 c2, .bool od] t (0, 0)))
  {v : Value} {l : List Span} (hs : SeesR w 4 spanL v l) (hl : 0 < l.length) (b : Nat) (e : v.ownBlock = some b) : b ≠ bx := by
 rintro rfl
 obtain ⟨b', o, c, rfl, _, _, hc⟩ := hs.at hl
 simp only [Value.ownBlock, Option.some.injEq] at e
 subst e
 obtain ⟨x, hx⟩ : ∃ x, l[0]? = some x := ⟨_, List.getElem?_eq_getElem hl⟩
 have q := hc 0 x hx 0 _ rfl
 match o with
 | 0 => simp [World.cell?, h] at q
 | 1 => simp [World.cell?, h] at q
 | 2 => simp [World.cell?, h] at q
 | 3 => simp [World.cell?, h] at q
 | o + 4 => simp [World.cell?, h] at q
theorem SeesR.put_reg {w : World} {bx : Nat} {p0 p1 p2 : Option Addr} {n0 c0 n1 c1 n2 c2 : Nat} {od : Bool} {t : TypeId} (h : w.heap[bx]? = some (.cells #[.slice p0 n0 c0, .slice p1 n1 c1, .slice p2 n2 c2, .bool od] t (0, 0)))
  {v : Value} {l : List Span} (hs : SeesR w 4 spanL v l) (i : Nat) (u : Value) : SeesR (w.setCell ⟨bx, i, none⟩ u) 4 spanL v l :=
 hs.keepsN (keepV w bx i u) (fun hl b e f => reg_ne h hs hl b e f)
def MR (bx : Nat) (r s : Rg) (j : Nat) (W : World) : Prop :=
 ∃ p0 n0 c0 p1 n1 c1 p2 n2 c2, W.heap[bx]? = some (.cells #[.slice p0 n0 c0, .slice p1 n1 c1, .slice p2 n2 c2, .bool (r.odd && !s.odd)] 102 (0, 0)) ∧
  SeesR W 4 spanL (.slice p0 n0 c0) (if 1 ≤ j then minusL r.a s.a else []) ∧ SeesR W 4 spanL (.slice p1 n1 c1) (if 2 ≤ j then minusL r.b s.b else []) ∧ SeesR W 4 spanL (.slice p2 n2 c2) (if 3 ≤ j then minusL r.c s.c else [])
theorem MR.to {bx : Nat} {r s : Rg} {j : Nat} {W W' : World} (h : MR bx r s j W) (k : Old W W') : MR bx r s j W' := by
 obtain ⟨p0, n0, c0, p1, n1, c1, p2, n2, c2, e, h1, h2, h3⟩ := h
 exact ⟨p0, n0, c0, p1, n1, c1, p2, n2, c2, (k.block _ (lt_of_heap e) (fun f => f)).trans e, h1.old k, h2.old k, h3.old k⟩
theorem MR.put0 {bx : Nat} {r s : Rg} {W : World} (h : MR bx r s 0 W) {p : Option Addr} {n c : Nat} (hv : SeesR W 4 spanL (.slice p n c) (minusL r.a s.a)) : MR bx r s 1 (W.setCell ⟨bx, 0, none⟩ (.slice p n c)) := by
 obtain ⟨p0, n0, c0, p1, n1, c1, p2, n2, c2, e, h1, h2, h3⟩ := h
 have e1 := heap_setCell_same W bx 0 _ _ (.slice p n c) e
 exact ⟨p, n, c, p1, n1, c1, p2, n2, c2, by simpa using e1, hv.put_reg e 0 _, h2.put_reg e 0 _, h3.put_reg e 0 _⟩
theorem MR.put1 {bx : Nat} {r s : Rg} {W : World} (h : MR bx r s 1 W) {p : Option Addr} {n c : Nat} (hv : SeesR W 4 spanL (.slice p n c) (minusL r.b s.b)) : MR bx r s 2 (W.setCell ⟨bx, 1, none⟩ (.slice p n c)) := by
 obtain ⟨p0, n0, c0, p1, n1, c1, p2, n2, c2, e, h1, h2, h3⟩ := h
 have e1 := heap_setCell_same W bx 1 _ _ (.slice p n c) e
 exact ⟨p0, n0, c0, p, n, c, p2, n2, c2, by simpa using e1, h1.put_reg e 1 _, hv.put_reg e 1 _, h3.put_reg e 1 _⟩
theorem MR.put2 {bx : Nat} {r s : Rg} {W : World} (h : MR bx r s 2 W) {p : Option Addr} {n c : Nat} (hv : SeesR W 4 spanL (.slice p n c) (minusL r.c s.c)) : MR bx r s 3 (W.setCell ⟨bx, 2, none⟩ (.slice p n c)) := by
 obtain ⟨p0, n0, c0, p1, n1, c1, p2, n2, c2, e, h1, h2, h3⟩ := h
 have e1 := heap_setCell_same W bx 2 _ _ (.slice p n c) e
 exact ⟨p0, n0, c0, p1, n1, c1, p, n, c, by simpa using e1, h1.put_reg e 2 _, h2.put_reg e 2 _, hv.put_reg e 2 _⟩
theorem MR.keep {bx : Nat} {r s : Rg} {j : Nat} {W W' : World} (h : MR bx r s j W) (hk : Keeps (fun k => k = bx) W W') {v : Value} {l : List Span} (hs : SeesR W 4 spanL v l) : SeesR W' 4 spanL v l := by
 obtain ⟨p0, n0, c0, p1, n1, c1, p2, n2, c2, e, _⟩ := h
 exact hs.keepsN hk (fun hl b e' f => reg_ne e hs hl b e' f)
theorem put4r {w : World} {b : Nat} {t : TypeId} {a0 a1 a2 a3 : Value} (h : w.heap[b]? = some (.cells #[a0, a1, a2, a3] t (0, 0))) (v0 v1 v2 v3 : Value) :
  ((((w.setCell ⟨b, 0, none⟩ v0).setCell ⟨b, 1, none⟩ v1).setCell ⟨b, 2, none⟩ v2).setCell ⟨b, 3, none⟩ v3).heap[b]? = some (.cells #[v0, v1, v2, v3] t (0, 0)) := by
 have e1 := heap_setCell_same w b 0 _ _ v0 h
 have e2 := heap_setCell_same _ b 1 _ _ v1 e1
 have e3 := heap_setCell_same _ b 2 _ _ v2 e2
 have e4 := heap_setCell_same _ b 3 _ _ v3 e3
 simpa using e4
theorem three_blocks (w : World) (A B C : Obj) : (((w.alloc A).alloc B).alloc C).heap[w.heap.size]? = some A ∧ (((w.alloc A).alloc B).alloc C).heap[w.heap.size + 1]? = some B ∧ (((w.alloc A).alloc B).alloc C).heap[w.heap.size + 1 + 1]? = some C ∧ (((w.alloc A).alloc B).alloc C).heap.size = w.heap.size + 3 := by
 obtain ⟨f1, f2⟩ := two_blocks w A B
 have z2 : ((w.alloc A).alloc B).heap.size = w.heap.size + 1 + 1 := by simp
 have k : Old ((w.alloc A).alloc B) (((w.alloc A).alloc B).alloc C) := (Keeps.refl _ _).alloc _
 have h3 := heap_alloc_new ((w.alloc A).alloc B) C
 rw [z2] at h3
 exact ⟨(k.block _ (lt_of_heap f1) (fun f => f)).trans f1, (k.block _ (lt_of_heap f2) (fun f => f)).trans f2, h3, by simp⟩
def RB (br bs : Nat) (R S : Array Value) (W : World) : Prop := W.heap[br]? = some (.cells R 102 (0, 0)) ∧ W.heap[bs]? = some (.cells S 102 (0, 0))
theorem RB.to {br bs : Nat} {R S : Array Value} {W W' : World} (h : RB br bs R S W) (k : Old W W') : RB br bs R S W' :=
 ⟨(k.block _ (lt_of_heap h.1) (fun f => f)).trans h.1, (k.block _ (lt_of_heap h.2) (fun f => f)).trans h.2⟩
theorem Minus_any (v1 v2 : Value) (r s : Rg) (n m : Nat) (w : World) (h1 : SeesG w v1 r) (h2 : SeesG w v2 s) (hr : r.ok n) (hs : s.ok m) (hnm : n + m ≤ 100000) :
  Calls Tryz.prog 90 #[v1, v2] w fun e w' => ∃ v, e = .returned v ∧ SeesG w' v (minusR r s) ∧ Old w w' := by
 have SR := Lib.hid (And.intro h1 (And.intro h2 (And.intro hr (And.intro hs hnm))))
 obtain ⟨p0, n0, c0, p1, n1, c1, p2, n2, c2, rfl, g0, g1, g2⟩ := h1
 obtain ⟨q0, m0, d0, q1, m1, d1, q2, m2, d2, rfl, k0, k1, k2⟩ := h2
 have G := Lib.hid (And.intro g0 (And.intro g1 (And.intro g2 (And.intro k0 (And.intro k1 k2)))))
 clear g0 g1 g2 k0 k1 k2 hr hs hnm
 obtain ⟨W1, hW1⟩ : ∃ W1, ((w.alloc (.cells #[.slice p0 n0 c0, .slice p1 n1 c1, .slice p2 n2 c2, .bool r.odd] 102)).alloc (.cells #[.slice q0 m0 d0, .slice q1 m1 d1, .slice q2 m2 d2, .bool s.odd] 102)).alloc (.cells #[.slice none 0 0, .slice none 0 0, .slice none 0 0, .bool false] 102) = W1 := ⟨_, rfl⟩
 have o1 : Old w W1 := by rw [← hW1]; exact (((Keeps.refl _ _).alloc _).alloc _).alloc _
 obtain ⟨b1, b2, b3, z1⟩ := three_blocks w (.cells #[.slice p0 n0 c0, .slice p1 n1 c1, .slice p2 n2 c2, .bool r.odd] 102) (.cells #[.slice q0 m0 d0, .slice q1 m1 d1, .slice q2 m2 d2, .bool s.odd] 102) (.cells #[.slice none 0 0, .slice none 0 0, .slice none 0 0, .bool false] 102)
 rw [hW1] at b1 b2 b3 z1
 have r1 := blk4 b1
 have r2 := blk4 b2
 have HW := Lib.hid hW1
 go_enter Tryz.func90, Tryz.ntmps90
 go_upto_region 1 with fail
 clear hW1
 have O1 := Lib.hid (And.intro o1 (And.intro b1 (And.intro b2 z1)))
 have HB3 := Lib.hid b3
 clear o1 b1 b2 b3 z1
 go_cut [5] from 7 to 14 (fun v5 wc => v5 = .pointer (some ⟨w.heap.size + 3, 0, none⟩) ∧ ∃ wx, wx = wc ∧ MR (w.heap.size + 3) r s 0 wx ∧ Old W1 wx)
 case first =>
  have A : ∀ od, od = (r.odd && !s.odd) → MR (w.heap.size + 3) r s 0 (W1.alloc (.cells #[.slice none 0 0, .slice none 0 0, .slice none 0 0, .bool od] 102)) := by
   rintro od rfl
   have h := heap_alloc_new W1 (.cells #[.slice none 0 0, .slice none 0 0, .slice none 0 0, .bool (r.odd && !s.odd)] 102)
   rw [O1.out.2.2.2] at h
   have N : ∀ W, SeesR W 4 spanL (.slice none 0 0) [] := fun W => SeesR.nil _
   exact ⟨_, _, _, _, _, _, _, _, _, h, N _, N _, N _⟩
  have HA := Lib.hid A
  have hz := O1.out.2.2.2
  clear A
  rcases (Bool.eq_false_or_eq_true r.odd).symm with hro | hro
  ·rw [hro] at r1
   have HRO := Lib.hid hro
   clear hro
   go_wp2_with fail
   go_meet
   case rel => exact ⟨rfl, _, rfl, HA.out _ (by rw [HRO.out]; rfl), (Keeps.refl _ _).alloc _⟩
  ·rcases (Bool.eq_false_or_eq_true s.odd).symm with hso | hso
   ·rw [hro] at r1
    rw [hso] at r2
    have HRO := Lib.hid (And.intro hro hso)
    clear hro hso
    go_wp2_with fail
    go_meet
    case rel => exact ⟨rfl, _, rfl, HA.out _ (by rw [HRO.out.1, HRO.out.2]; rfl), (Keeps.refl _ _).alloc _⟩
   ·rw [hro] at r1
    rw [hso] at r2
    have HRO := Lib.hid (And.intro hro hso)
    clear hro hso
    go_wp2_with fail
    go_meet
    case rel => exact ⟨rfl, _, rfl, HA.out _ (by rw [HRO.out.1, HRO.out.2]; rfl), (Keeps.refl _ _).alloc _⟩
 case rest =>
  obtain ⟨rfl, W3, hW3, hm0, k0⟩ := hcut
  subst hW3
  obtain ⟨bx, hbx⟩ : ∃ bx, w.heap.size + 3 = bx := ⟨_, rfl⟩
  rw [hbx] at hm0 ⊢
  have M := Lib.hid (And.intro hm0 (And.intro (O1.out.1.trans k0) (And.intro ((k0.block _ (lt_of_heap O1.out.2.1) (fun f => f)).trans O1.out.2.1) (And.intro ((k0.block _ (lt_of_heap O1.out.2.2.1) (fun f => f)).trans O1.out.2.2.1) hbx))))
  have HB := Lib.hid ((k0.block _ (lt_of_heap HB3.out) (fun f => f)).trans HB3.out)
  clear hm0 k0 r1 r2 hbx
  go_wp2_with fail
  go_loopw [15] (fun v15 wr => ∃ j : Nat, j ≤ 3 ∧ v15 = .int .i64 j ∧ MR bx r s j wr ∧ Keeps (fun k => k = bx) W3 wr) (fun v15 _ => 3 - (intOf v15).toNat)
  case atStart => exact ⟨0, by omega, rfl, M.out.1, Keeps.refl _ _⟩
  case round =>
   obtain ⟨wq, hwq⟩ : ∃ wq : World, wq = wr := ⟨_, rfl⟩
   subst hwq
   obtain ⟨j, hj, rfl, hm, hk⟩ := hrel
   rcases (show j = 0 ∨ j = 1 ∨ j = 2 ∨ j = 3 by omega) with rfl | rfl | rfl | rfl
   ·have rd : RB w.heap.size (w.heap.size + 1) #[.slice p0 n0 c0, .slice p1 n1 c1, .slice p2 n2 c2, .bool r.odd] #[.slice q0 m0 d0, .slice q1 m1 d1, .slice q2 m2 d2, .bool s.odd] wq.drew := ⟨(hk.block _ (lt_of_heap M.out.2.2.1) (by have := M.out.2.2.2.2; omega)).trans M.out.2.2.1, (hk.block _ (lt_of_heap M.out.2.2.2.1) (by have := M.out.2.2.2.2; omega)).trans M.out.2.2.2.1⟩
    have sa := M.out.1.keep hk (G.out.1.old M.out.2.1)
    have sb := M.out.1.keep hk (G.out.2.2.2.1.old M.out.2.1)
    have C := Lib.hid (minus_any _ _ r.a s.a wq.drew sa.drew sb.drew SR.out.2.2.1.1.1 SR.out.2.2.2.1.1.1.1 (by have h1 := SR.out.2.2.1.1.2; have h2 := SR.out.2.2.2.1.1.2; have h3 := SR.out.2.2.2.2; omega))
    have KM := Lib.hid (And.intro hm hk)
    clear hm hk sa sb
    go_upto_region 5 with fail
    refine wp_region_g (S := RB w.heap.size (w.heap.size + 1) #[.slice p0 n0 c0, .slice p1 n1 c1, .slice p2 n2 c2, .bool r.odd] #[.slice q0 m0 d0, .slice q1 m1 d1, .slice q2 m2 d2, .bool s.odd]) (M := [0, 1, 2, 3, 4, 5, 6, 7, 8, 9, 10, 11, 12]) (by kernel_rfl) ?_
    refine tkG (i := 10) (v := ?vk0t10) ?yk0t10 rd ?rk0t10
    case yk0t10 => (intro W hSw; go_simp; try with_reducible rfl)
    try simp only [Act.put, List.setIfInBounds_toArray, List.set_cons_zero, List.set_cons_succ]
    refine tkG (i := 0) (v := ?vk0t0) ?yk0t0 rd ?rk0t0
    case yk0t0 => (intro W hSw; go_simp; try with_reducible rfl)
    try simp only [Act.put, List.setIfInBounds_toArray, List.set_cons_zero, List.set_cons_succ]
    refine tkG (i := 1) (v := ?vk0t1) ?yk0t1 rd ?rk0t1
    case yk0t1 => (intro W hSw; go_simp; try with_reducible rfl)
    try simp only [Act.put, List.setIfInBounds_toArray, List.set_cons_zero, List.set_cons_succ]
    refine tkG (i := 2) (v := ?vk0t2) ?yk0t2 rd ?rk0t2
    case yk0t2 => (intro W hSw; go_simp; try with_reducible rfl)
    try simp only [Act.put, List.setIfInBounds_toArray, List.set_cons_zero, List.set_cons_succ]
    refine tkG (i := 3) (v := ?vk0t3) ?yk0t3 rd ?rk0t3
    case yk0t3 => (intro W hSw; go_simp; try with_reducible rfl)
    try simp only [Act.put, List.setIfInBounds_toArray, List.set_cons_zero, List.set_cons_succ]
    refine tkG (i := 4) (v := ?vk0t4) ?yk0t4 rd ?rk0t4
    case yk0t4 => (intro W hSw; obtain ⟨g1, g2⟩ := hSw; have q3 := blk4 g1; have q4 := blk4 g2; go_simp; try with_reducible rfl)
    try simp only [Act.put, List.setIfInBounds_toArray, List.set_cons_zero, List.set_cons_succ]
    refine tkG (i := 5) (v := ?vk0t5) ?yk0t5 rd ?rk0t5
    case yk0t5 => (intro W hSw; go_simp; try with_reducible rfl)
    try simp only [Act.put, List.setIfInBounds_toArray, List.set_cons_zero, List.set_cons_succ]
    refine tkG (i := 6) (v := ?vk0t6) ?yk0t6 rd ?rk0t6
    case yk0t6 => (intro W hSw; go_simp; try with_reducible rfl)
    try simp only [Act.put, List.setIfInBounds_toArray, List.set_cons_zero, List.set_cons_succ]
    refine tkG (i := 7) (v := ?vk0t7) ?yk0t7 rd ?rk0t7
    case yk0t7 => (intro W hSw; go_simp; try with_reducible rfl)
    try simp only [Act.put, List.setIfInBounds_toArray, List.set_cons_zero, List.set_cons_succ]
    refine tkG (i := 8) (v := ?vk0t8) ?yk0t8 rd ?rk0t8
    case yk0t8 => (intro W hSw; obtain ⟨g1, g2⟩ := hSw; have q3 := blk4 g1; have q4 := blk4 g2; go_simp; try with_reducible rfl)
    try simp only [Act.put, List.setIfInBounds_toArray, List.set_cons_zero, List.set_cons_succ]
    refine wpAnyG_onlyL (i := 9) (o := _) (by kernel_rfl) rfl (fun K hK => ?_)
    go_simp
    refine C.out.mono ?_
    rintro e w4 ⟨p, n', c, rfl, s4, k4⟩
    have hD4 := rd.to k4
    have kd : Old wq w4 := (Keeps.refl (fun _ => False) wq).drew.trans k4
    have T := Lib.hid (And.intro (KM.out.1.to kd) (And.intro s4 (KM.out.2.then kd (fun _ _ f => f.elim))))
    clear k4 s4 rd kd
    go_wp2_with fail
    refine hK.out _ _ (fun _ => hD4) ?_
    clear hK K
    try simp only [Act.put, List.setIfInBounds_toArray, List.set_cons_zero, List.set_cons_succ]
    refine wpAnyG_onlyL (i := 11) (o := _) (by kernel_rfl) rfl (fun K hK => ?_)
    go_simp
    refine hK.out _ _ (fun _ => hD4) ?_
    clear hK K
    try simp only [Act.put, List.setIfInBounds_toArray, List.set_cons_zero, List.set_cons_succ]
    obtain ⟨x1, x2, x3, x4, x5, x6, x7, x8, x9, e9, _⟩ := T.out.1
    have q9 := blk4 e9
    clear e9
    refine wpAnyG_onlyL (i := 12) (o := _) (by kernel_rfl) rfl (fun K hK => ?_)
    go_simp
    refine hK.out _ _ (fun _ => ⟨((keepV w4 bx 0 _).block _ (lt_of_heap hD4.1) (by have := M.out.2.2.2.2; omega)).trans hD4.1, ((keepV w4 bx 0 _).block _ (lt_of_heap hD4.2) (by have := M.out.2.2.2.2; omega)).trans hD4.2⟩) ?_
    clear hK K
    try simp only [Act.put, List.setIfInBounds_toArray, List.set_cons_zero, List.set_cons_succ]
    refine wpAnyG_done (by kernel_rfl) ?_ _
    go_simp
    go_wp2_with fail
    go_roundw
    case rel => exact ⟨1, by omega, by go_num, T.out.1.put0 T.out.2.1, T.out.2.2.setCell (fun _ => rfl) _⟩
    case measure => simp [intOf]
   ·have rd : RB w.heap.size (w.heap.size + 1) #[.slice p0 n0 c0, .slice p1 n1 c1, .slice p2 n2 c2, .bool r.odd] #[.slice q0 m0 d0, .slice q1 m1 d1, .slice q2 m2 d2, .bool s.odd] wq.drew := ⟨(hk.block _ (lt_of_heap M.out.2.2.1) (by have := M.out.2.2.2.2; omega)).trans M.out.2.2.1, (hk.block _ (lt_of_heap M.out.2.2.2.1) (by have := M.out.2.2.2.2; omega)).trans M.out.2.2.2.1⟩
    have sa := M.out.1.keep hk (G.out.2.1.old M.out.2.1)
    have sb := M.out.1.keep hk (G.out.2.2.2.2.1.old M.out.2.1)
    have C := Lib.hid (minus_any _ _ r.b s.b wq.drew sa.drew sb.drew SR.out.2.2.1.2.1.1 SR.out.2.2.2.1.2.1.1.1 (by have h1 := SR.out.2.2.1.2.1.2; have h2 := SR.out.2.2.2.1.2.1.2; have h3 := SR.out.2.2.2.2; omega))
    have KM := Lib.hid (And.intro hm hk)
    clear hm hk sa sb
    go_upto_region 5 with fail
    refine wp_region_g (S := RB w.heap.size (w.heap.size + 1) #[.slice p0 n0 c0, .slice p1 n1 c1, .slice p2 n2 c2, .bool r.odd] #[.slice q0 m0 d0, .slice q1 m1 d1, .slice q2 m2 d2, .bool s.odd]) (M := [0, 1, 2, 3, 4, 5, 6, 7, 8, 9, 10, 11, 12]) (by kernel_rfl) ?_
    refine tkG (i := 10) (v := ?vk1t10) ?yk1t10 rd ?rk1t10
    case yk1t10 => (intro W hSw; go_simp; try with_reducible rfl)
    try simp only [Act.put, List.setIfInBounds_toArray, List.set_cons_zero, List.set_cons_succ]
    refine tkG (i := 0) (v := ?vk1t0) ?yk1t0 rd ?rk1t0
    case yk1t0 => (intro W hSw; go_simp; try with_reducible rfl)
    try simp only [Act.put, List.setIfInBounds_toArray, List.set_cons_zero, List.set_cons_succ]
    refine tkG (i := 1) (v := ?vk1t1) ?yk1t1 rd ?rk1t1
    case yk1t1 => (intro W hSw; go_simp; try with_reducible rfl)
    try simp only [Act.put, List.setIfInBounds_toArray, List.set_cons_zero, List.set_cons_succ]
    refine tkG (i := 2) (v := ?vk1t2) ?yk1t2 rd ?rk1t2
    case yk1t2 => (intro W hSw; go_simp; try with_reducible rfl)
    try simp only [Act.put, List.setIfInBounds_toArray, List.set_cons_zero, List.set_cons_succ]
    refine tkG (i := 3) (v := ?vk1t3) ?yk1t3 rd ?rk1t3
    case yk1t3 => (intro W hSw; go_simp; try with_reducible rfl)
    try simp only [Act.put, List.setIfInBounds_toArray, List.set_cons_zero, List.set_cons_succ]
    refine tkG (i := 4) (v := ?vk1t4) ?yk1t4 rd ?rk1t4
    case yk1t4 => (intro W hSw; obtain ⟨g1, g2⟩ := hSw; have q3 := blk4 g1; have q4 := blk4 g2; go_simp; try with_reducible rfl)
    try simp only [Act.put, List.setIfInBounds_toArray, List.set_cons_zero, List.set_cons_succ]
    refine tkG (i := 5) (v := ?vk1t5) ?yk1t5 rd ?rk1t5
    case yk1t5 => (intro W hSw; go_simp; try with_reducible rfl)
    try simp only [Act.put, List.setIfInBounds_toArray, List.set_cons_zero, List.set_cons_succ]
    refine tkG (i := 6) (v := ?vk1t6) ?yk1t6 rd ?rk1t6
    case yk1t6 => (intro W hSw; go_simp; try with_reducible rfl)
    try simp only [Act.put, List.setIfInBounds_toArray, List.set_cons_zero, List.set_cons_succ]
    refine tkG (i := 7) (v := ?vk1t7) ?yk1t7 rd ?rk1t7
    case yk1t7 => (intro W hSw; go_simp; try with_reducible rfl)
    try simp only [Act.put, List.setIfInBounds_toArray, List.set_cons_zero, List.set_cons_succ]
    refine tkG (i := 8) (v := ?vk1t8) ?yk1t8 rd ?rk1t8
    case yk1t8 => (intro W hSw; obtain ⟨g1, g2⟩ := hSw; have q3 := blk4 g1; have q4 := blk4 g2; go_simp; try with_reducible rfl)
    try simp only [Act.put, List.setIfInBounds_toArray, List.set_cons_zero, List.set_cons_succ]
    refine wpAnyG_onlyL (i := 9) (o := _) (by kernel_rfl) rfl (fun K hK => ?_)
    go_simp
    refine C.out.mono ?_
    rintro e w4 ⟨p, n', c, rfl, s4, k4⟩
    have hD4 := rd.to k4
    have kd : Old wq w4 := (Keeps.refl (fun _ => False) wq).drew.trans k4
    have T := Lib.hid (And.intro (KM.out.1.to kd) (And.intro s4 (KM.out.2.then kd (fun _ _ f => f.elim))))
    clear k4 s4 rd kd
    go_wp2_with fail
    refine hK.out _ _ (fun _ => hD4) ?_
    clear hK K
    try simp only [Act.put, List.setIfInBounds_toArray, List.set_cons_zero, List.set_cons_succ]
    refine wpAnyG_onlyL (i := 11) (o := _) (by kernel_rfl) rfl (fun K hK => ?_)
    go_simp
    refine hK.out _ _ (fun _ => hD4) ?_
    clear hK K
    try simp only [Act.put, List.setIfInBounds_toArray, List.set_cons_zero, List.set_cons_succ]
    obtain ⟨x1, x2, x3, x4, x5, x6, x7, x8, x9, e9, _⟩ := T.out.1
    have q9 := blk4 e9
    clear e9
    refine wpAnyG_onlyL (i := 12) (o := _) (by kernel_rfl) rfl (fun K hK => ?_)
    go_simp
    refine hK.out _ _ (fun _ => ⟨((keepV w4 bx 1 _).block _ (lt_of_heap hD4.1) (by have := M.out.2.2.2.2; omega)).trans hD4.1, ((keepV w4 bx 1 _).block _ (lt_of_heap hD4.2) (by have := M.out.2.2.2.2; omega)).trans hD4.2⟩) ?_
    clear hK K
    try simp only [Act.put, List.setIfInBounds_toArray, List.set_cons_zero, List.set_cons_succ]
    refine wpAnyG_done (by kernel_rfl) ?_ _
    go_simp
    go_wp2_with fail
    go_roundw
    case rel => exact ⟨2, by omega, by go_num, T.out.1.put1 T.out.2.1, T.out.2.2.setCell (fun _ => rfl) _⟩
    case measure => simp [intOf]
   ·have rd : RB w.heap.size (w.heap.size + 1) #[.slice p0 n0 c0, .slice p1 n1 c1, .slice p2 n2 c2, .bool r.odd] #[.slice q0 m0 d0, .slice q1 m1 d1, .slice q2 m2 d2, .bool s.odd] wq.drew := ⟨(hk.block _ (lt_of_heap M.out.2.2.1) (by have := M.out.2.2.2.2; omega)).trans M.out.2.2.1, (hk.block _ (lt_of_heap M.out.2.2.2.1) (by have := M.out.2.2.2.2; omega)).trans M.out.2.2.2.1⟩
    have sa := M.out.1.keep hk (G.out.2.2.1.old M.out.2.1)
    have sb := M.out.1.keep hk (G.out.2.2.2.2.2.old M.out.2.1)
    have C := Lib.hid (minus_any _ _ r.c s.c wq.drew sa.drew sb.drew SR.out.2.2.1.2.2.1 SR.out.2.2.2.1.2.2.1.1 (by have h1 := SR.out.2.2.1.2.2.2; have h2 := SR.out.2.2.2.1.2.2.2; have h3 := SR.out.2.2.2.2; omega))
    have KM := Lib.hid (And.intro hm hk)
    clear hm hk sa sb
    go_upto_region 5 with fail
    refine wp_region_g (S := RB w.heap.size (w.heap.size + 1) #[.slice p0 n0 c0, .slice p1 n1 c1, .slice p2 n2 c2, .bool r.odd] #[.slice q0 m0 d0, .slice q1 m1 d1, .slice q2 m2 d2, .bool s.odd]) (M := [0, 1, 2, 3, 4, 5, 6, 7, 8, 9, 10, 11, 12]) (by kernel_rfl) ?_
    refine tkG (i := 10) (v := ?vk2t10) ?yk2t10 rd ?rk2t10
    case yk2t10 => (intro W hSw; go_simp; try with_reducible rfl)
    try simp only [Act.put, List.setIfInBounds_toArray, List.set_cons_zero, List.set_cons_succ]
    refine tkG (i := 0) (v := ?vk2t0) ?yk2t0 rd ?rk2t0
    case yk2t0 => (intro W hSw; go_simp; try with_reducible rfl)
    try simp only [Act.put, List.setIfInBounds_toArray, List.set_cons_zero, List.set_cons_succ]
    refine tkG (i := 1) (v := ?vk2t1) ?yk2t1 rd ?rk2t1
    case yk2t1 => (intro W hSw; go_simp; try with_reducible rfl)
    try simp only [Act.put, List.setIfInBounds_toArray, List.set_cons_zero, List.set_cons_succ]
    refine tkG (i := 2) (v := ?vk2t2) ?yk2t2 rd ?rk2t2
    case yk2t2 => (intro W hSw; go_simp; try with_reducible rfl)
    try simp only [Act.put, List.setIfInBounds_toArray, List.set_cons_zero, List.set_cons_succ]
    refine tkG (i := 3) (v := ?vk2t3) ?yk2t3 rd ?rk2t3
    case yk2t3 => (intro W hSw; go_simp; try with_reducible rfl)
    try simp only [Act.put, List.setIfInBounds_toArray, List.set_cons_zero, List.set_cons_succ]
    refine tkG (i := 4) (v := ?vk2t4) ?yk2t4 rd ?rk2t4
    case yk2t4 => (intro W hSw; obtain ⟨g1, g2⟩ := hSw; have q3 := blk4 g1; have q4 := blk4 g2; go_simp; try with_reducible rfl)
    try simp only [Act.put, List.setIfInBounds_toArray, List.set_cons_zero, List.set_cons_succ]
    refine tkG (i := 5) (v := ?vk2t5) ?yk2t5 rd ?rk2t5
    case yk2t5 => (intro W hSw; go_simp; try with_reducible rfl)
    try simp only [Act.put, List.setIfInBounds_toArray, List.set_cons_zero, List.set_cons_succ]
    refine tkG (i := 6) (v := ?vk2t6) ?yk2t6 rd ?rk2t6
    case yk2t6 => (intro W hSw; go_simp; try with_reducible rfl)
    try simp only [Act.put, List.setIfInBounds_toArray, List.set_cons_zero, List.set_cons_succ]
    refine tkG (i := 7) (v := ?vk2t7) ?yk2t7 rd ?rk2t7
    case yk2t7 => (intro W hSw; go_simp; try with_reducible rfl)
    try simp only [Act.put, List.setIfInBounds_toArray, List.set_cons_zero, List.set_cons_succ]
    refine tkG (i := 8) (v := ?vk2t8) ?yk2t8 rd ?rk2t8
    case yk2t8 => (intro W hSw; obtain ⟨g1, g2⟩ := hSw; have q3 := blk4 g1; have q4 := blk4 g2; go_simp; try with_reducible rfl)
    try simp only [Act.put, List.setIfInBounds_toArray, List.set_cons_zero, List.set_cons_succ]
    refine wpAnyG_onlyL (i := 9) (o := _) (by kernel_rfl) rfl (fun K hK => ?_)
    go_simp
    refine C.out.mono ?_
    rintro e w4 ⟨p, n', c, rfl, s4, k4⟩
    have hD4 := rd.to k4
    have kd : Old wq w4 := (Keeps.refl (fun _ => False) wq).drew.trans k4
    have T := Lib.hid (And.intro (KM.out.1.to kd) (And.intro s4 (KM.out.2.then kd (fun _ _ f => f.elim))))
    clear k4 s4 rd kd
    go_wp2_with fail
    refine hK.out _ _ (fun _ => hD4) ?_
    clear hK K
    try simp only [Act.put, List.setIfInBounds_toArray, List.set_cons_zero, List.set_cons_succ]
    refine wpAnyG_onlyL (i := 11) (o := _) (by kernel_rfl) rfl (fun K hK => ?_)
    go_simp
    refine hK.out _ _ (fun _ => hD4) ?_
    clear hK K
    try simp only [Act.put, List.setIfInBounds_toArray, List.set_cons_zero, List.set_cons_succ]
    obtain ⟨x1, x2, x3, x4, x5, x6, x7, x8, x9, e9, _⟩ := T.out.1
    have q9 := blk4 e9
    clear e9
    refine wpAnyG_onlyL (i := 12) (o := _) (by kernel_rfl) rfl (fun K hK => ?_)
    go_simp
    refine hK.out _ _ (fun _ => ⟨((keepV w4 bx 2 _).block _ (lt_of_heap hD4.1) (by have := M.out.2.2.2.2; omega)).trans hD4.1, ((keepV w4 bx 2 _).block _ (lt_of_heap hD4.2) (by have := M.out.2.2.2.2; omega)).trans hD4.2⟩) ?_
    clear hK K
    try simp only [Act.put, List.setIfInBounds_toArray, List.set_cons_zero, List.set_cons_succ]
    refine wpAnyG_done (by kernel_rfl) ?_ _
    go_simp
    go_wp2_with fail
    go_roundw
    case rel => exact ⟨3, by omega, by go_num, T.out.1.put2 T.out.2.1, T.out.2.2.setCell (fun _ => rfl) _⟩
    case measure => simp [intOf]
   ·have rb := (hk.block _ (lt_of_heap HB.out) (by have := M.out.2.2.2.2; omega)).trans HB.out
    have E := Lib.hid (And.intro hm (And.intro hk rb))
    obtain ⟨x1, x2, x3, x4, x5, x6, x7, x8, x9, e9, SS⟩ := hm
    have q9 := blk4 e9
    have q8 := blk4 rb
    clear hk rb e9
    go_wp2_with fail
    have k4 := keep44 wq (w.heap.size + 1 + 1) (.slice x1 x2 x3) (.slice x4 x5 x6) (.slice x7 x8 x9) (.bool (r.odd && !s.odd))
    have F := blk4 (put4r E.out.2.2 (.slice x1 x2 x3) (.slice x4 x5 x6) (.slice x7 x8 x9) (.bool (r.odd && !s.odd)))
    obtain ⟨W9, hW9⟩ : ∃ W9, (((wq.setCell ⟨w.heap.size + 1 + 1, 0, none⟩ (.slice x1 x2 x3)).setCell ⟨w.heap.size + 1 + 1, 1, none⟩ (.slice x4 x5 x6)).setCell ⟨w.heap.size + 1 + 1, 2, none⟩ (.slice x7 x8 x9)).setCell ⟨w.heap.size + 1 + 1, 3, none⟩ (.bool (r.odd && !s.odd)) = W9 := ⟨_, rfl⟩
    rw [hW9] at k4 F ⊢
    refine bodyPost_ret (v := .agg #[.slice x1 x2 x3, .slice x4 x5 x6, .slice x7 x8 x9, .bool (r.odd && !s.odd)]) (by simp [results, Tryz.results90, go_sem, F]) rfl ⟨_, rfl, ⟨_, _, _, _, _, _, _, _, _, rfl, ?_, ?_, ?_⟩, ?_⟩
    ·exact SS.1.keepsN k4 (fun hl b e f => reg_ne E.out.2.2 SS.1 hl b e f)
    ·exact SS.2.1.keepsN k4 (fun hl b e f => reg_ne E.out.2.2 SS.2.1 hl b e f)
    ·exact SS.2.2.keepsN k4 (fun hl b e f => reg_ne E.out.2.2 SS.2.2 hl b e f)
    ·exact ((M.out.2.1.then E.out.2.1 (fun i hi e => absurd (show i = bx from e) (by have h1 := M.out.2.2.2.2; omega)))).then k4 (fun i hi e => absurd (show i = w.heap.size + 1 + 1 from e) (by omega))
end
end Go.Proofs.YtehmlaplodjenaaGreat
