/- DERIVED. The document's reader of forms (layer 7): value. · DERIVED. The document's reader of forms (layer 7): event. -/
import Derived.Test.YtpjpimahnnekkaaGreatYpMsgForms21
set_option maxRecDepth 100000
set_option maxHeartbeats 4000000
namespace Go.Proofs.YtpjpimahnnekkaaGreat
section
open Go.RowKit
theorem Rr.above {S : Nat → Prop} {w w' : World} {rp : Nat} {st : Option (List UInt8)} (h : Rr w rp st) (k : Keeps S w w') (h1 : ∀ b, S b → rp < b) : Rr w' rp st := by
 cases st with
 | none => obtain ⟨p, n, c, hb⟩ := h; exact ⟨p, n, c, (k.block rp (lt_of_heap hb) (fun e => by have := h1 _ e; omega)).trans hb⟩
 | some l =>
  obtain ⟨v, hb, hs, hne⟩ := h
  refine ⟨v, (k.block rp (lt_of_heap hb) (fun e => by have := h1 _ e; omega)).trans hb, ?_, hne⟩
  cases l with
  | nil => exact hs.empty
  | cons x r => exact hs.keeps k (fun b hb' e => by have := h1 _ e; have := hne (by simp) b hb'; omega)
theorem Rr.apart {S : Nat → Prop} {w w' : World} {rp : Nat} {st : Option (List UInt8)} (h : Rr w rp st) (k : Keeps S w w') (h1 : ¬ S rp)
  (h2 : ∀ b, S b → b < w.heap.size → ∃ cs t fr, w.heap[b]? = some (.cells cs t fr) ∧ ∀ (i : Nat) (x : UInt8), cs[i]? ≠ some (u8 x)) : Rr w' rp st := by
 cases st with
 | none => obtain ⟨p, n, c, hb⟩ := h; exact ⟨p, n, c, (k.block rp (lt_of_heap hb) h1).trans hb⟩
 | some l =>
  obtain ⟨v, hb, hs, hne⟩ := h
  refine ⟨v, (k.block rp (lt_of_heap hb) h1).trans hb, ?_, hne⟩
  cases l with
  | nil => exact hs.empty
  | cons x r =>
   obtain ⟨b, o, c, rfl, _, _, hc⟩ := hs.at (by simp)
   refine hs.keeps k (fun b' hb' hS => ?_)
   simp only [Value.ownBlock, Option.some.injEq] at hb'
   subst hb'
   have hx := hc 0 x rfl
   have hlt := World.block_lt_of_cell? _ _ hx
   obtain ⟨cs, t, fr, hB, hno⟩ := h2 b hS hlt
   simp only [World.cell?, hB] at hx
   have hq : cs[o + 0]? = some (u8 x) := by simpa using hx
   exact hno _ _ hq
theorem Rr.old {w w' : World} {rp : Nat} {st : Option (List UInt8)} (h : Rr w rp st) (k : Old w w') : Rr w' rp st := h.apart k (fun f => f) (fun _ f => f.elim)
theorem no_u8_val (k n : Int) (s : ByteArray) (b : Bool) : ∀ (i : Nat) (x : UInt8), (#[.int .i64 k, .int .i64 n, .string s, .bool b] : Array Value)[i]? ≠ some (u8 x) := by
 intro i x h
 rcases i with _ | _ | _ | _ | i <;> simp [u8] at h
theorem Rr.lt {w : World} {rp : Nat} {st : Option (List UInt8)} (h : Rr w rp st) : rp < w.heap.size := by
 cases st with
 | none => obtain ⟨p, n, c, hb⟩ := h; exact lt_of_heap hb
 | some l => obtain ⟨v, hb, _⟩ := h; exact lt_of_heap hb
theorem rv_end {wz : World} {rp n0 : Nat} {st : Option (List UInt8)} {x0 x1 : Int} {x2 : ByteArray} {x3 : Bool} {t : TypeId} {fr : Nat × Nat} {a0 a1 a2 a3 : Value} (h : Rr wz rp st) (hb : wz.heap[n0]? = some (.cells #[.int .i64 x0, .int .i64 x1, .string x2, .bool x3] t fr)) (hne : rp ≠ n0) :
  Rr ((((wz.setCell ⟨n0, 0, none⟩ a0).setCell ⟨n0, 1, none⟩ a1).setCell ⟨n0, 2, none⟩ a2).setCell ⟨n0, 3, none⟩ a3) rp st :=
 h.apart (keep4 wz n0) hne (fun b hb' _ => ⟨_, _, _, by subst hb'; exact hb, no_u8_val _ _ _ _⟩)
theorem rv_set {wz : World} {rp n0 i : Nat} {st : Option (List UInt8)} {x0 x1 : Int} {x2 : ByteArray} {x3 : Bool} {t : TypeId} {fr : Nat × Nat} {a : Value} (h : Rr wz rp st) (hb : wz.heap[n0]? = some (.cells #[.int .i64 x0, .int .i64 x1, .string x2, .bool x3] t fr)) (hne : rp ≠ n0) :
  Rr (wz.setCell ⟨n0, i, none⟩ a) rp st :=
 h.apart (keepS _ (Keeps.refl _ _)) hne (fun b hb' _ => ⟨_, _, _, by subst hb'; exact hb, no_u8_val _ _ _ _⟩)
theorem rv_fin {w w3 : World} {rp n0 n3 i : Nat} {st : Option (List UInt8)} {x0 x1 y0 y1 : Int} {x2 y2 : ByteArray} {x3 y3 : Bool} {t t' : TypeId} {fr fr' : Nat × Nat} (u a0 a1 a2 a3 : Value) (h : Rr w3 rp st) (k : Keeps (fun k => k = rp) w w3)
  (hb0 : w3.heap[n0]? = some (.cells #[.int .i64 x0, .int .i64 x1, .string x2, .bool x3] t fr)) (hb3 : w3.heap[n3]? = some (.cells #[.int .i64 y0, .int .i64 y1, .string y2, .bool y3] t' fr')) (h0 : rp ≠ n0) (h3 : rp ≠ n3) (hn : n0 ≠ n3) (hw0 : w.heap.size ≤ n0) (hw3 : w.heap.size ≤ n3) :
  Rr (((((w3.setCell ⟨n3, i, none⟩ u).setCell ⟨n0, 0, none⟩ a0).setCell ⟨n0, 1, none⟩ a1).setCell ⟨n0, 2, none⟩ a2).setCell ⟨n0, 3, none⟩ a3) rp st ∧
  Keeps (fun k => k = rp) w (((((w3.setCell ⟨n3, i, none⟩ u).setCell ⟨n0, 0, none⟩ a0).setCell ⟨n0, 1, none⟩ a1).setCell ⟨n0, 2, none⟩ a2).setCell ⟨n0, 3, none⟩ a3) := by
 have kk : Keeps (fun k => k = n3) w3 (w3.setCell ⟨n3, i, none⟩ u) := keepS _ (Keeps.refl _ _)
 exact ⟨rv_end (rv_set h hb3 h3) ((kk.block n0 (lt_of_heap hb0) hn).trans hb0) h0, (k.then kk (fun j hj e => by omega)).then (keep4 _ _) (fun j hj e => by omega)⟩
def RV (w : World) (rp : Nat) (res : Option (Val × List UInt8)) (e : Ending) (w' : World) : Prop :=
 (∃ v : Val, e = .returned (.agg #[.int .i64 v.kind, .int .i64 v.num, .string v.str, .bool v.is]) ∧ ∀ x, res = some x → v = x.1) ∧ (Rr w' rp (res.map (·.2)) ∧ Keeps (fun k => k = rp) w w')
theorem RV.mk {w w' : World} {rp : Nat} {res : Option (Val × List UInt8)} {k n : Int} {s : ByteArray} {b : Bool} (h : ∀ x, res = some x → ⟨k, n, s, b⟩ = x.1) (hr : Rr w' rp (res.map (·.2))) (kk : Keeps (fun k => k = rp) w w') : RV w rp res (.returned (.agg #[.int .i64 k, .int .i64 n, .string s, .bool b])) w' := ⟨⟨⟨k, n, s, b⟩, rfl, h⟩, hr, kk⟩
theorem rfvalue_any (rp : Nat) (st : Option (List UInt8)) (w : World) (h : Rr w rp st) : Calls Tryz.prog 95 #[.pointer (some ⟨rp, 0, none⟩)] w (RV w rp (st.bind pVal)) := by
 have hrp := h.lt
 obtain ⟨W1, hW1⟩ : ∃ W1, w.alloc (.cells #[.int .i64 0, .int .i64 0, .string ⟨#[]⟩, .bool false] 69) = W1 := ⟨_, rfl⟩
 have k1 : Old w W1 := by rw [← hW1]; exact (Keeps.refl _ _).alloc _
 have b1 : W1.heap[w.heap.size]? = some (.cells #[.int .i64 0, .int .i64 0, .string ⟨#[]⟩, .bool false] 69 (0, 0)) := by rw [← hW1]; exact heap_alloc_new _ _
 have C1 := Lib.hid (rfnum_any rp 3 st W1 (h.old k1) (by decide))
 have hres : st.bind pVal = (st.bind (pNum 3)).bind fun x =>
   if x.1 = 1 then (pInt x.2).map fun y => (⟨1, y.1, ⟨#[]⟩, false⟩, y.2)
   else if x.1 = 2 then (pText 32 x.2).map fun y => (⟨2, 0, y.1, false⟩, y.2)
   else if x.1 = 3 then (pNum 1 x.2).map fun y => (⟨3, 0, ⟨#[]⟩, y.1 == 1⟩, y.2)
   else some (⟨x.1, 0, ⟨#[]⟩, false⟩, x.2) := by cases st <;> rfl
 have hbd : ∀ x, st.bind (pNum 3) = some x → x.1 ≤ 3 := by
  intro x hx
  cases st with
  | none => cases hx
  | some l => exact (pNum_inv (n := x.1) (r := x.2) hx).2.1
 generalize st.bind pVal = res at hres ⊢
 generalize st.bind (pNum 3) = q at hres hbd C1
 have HW := Lib.hid (And.intro k1 b1)
 have hsz : w.heap.size < W1.heap.size := lt_of_heap b1
 have hrn : rp ≠ w.heap.size := by omega
 clear k1 b1 h
 have HRES := Lib.hid hres
 clear hres
 go_enter Tryz.func95, Tryz.ntmps95
 go_wp2_with fail
 refine C1.out.mono ?_
 rintro e w2 ⟨rfl, hr, k2⟩
 have b2 := (k2.block _ hsz (fun e => hrn e.symm)).trans HW.out.2
 have g2 := blk4 b2
 have hsz2 : w.heap.size < w2.heap.size := lt_of_heap b2
 cases q with
 | none =>
  have hno : res = none := HRES.out
  have hr' : Rr w2 rp none := hr
  have R := Lib.hid (And.intro hr' (And.intro k2 (And.intro hno b2)))
  clear hr hr' k2 hno b2 HRES hbd
  go_wp2_with fail
  have HE := Lib.hid (show Rr w2 rp (res.map (·.2)) by rw [R.out.2.2.1]; exact R.out.1)
  have HF := Lib.hid (And.intro (rv_end (a0 := .int .i64 0) (a1 := .int .i64 0) (a2 := .string ⟨#[]⟩) (a3 := .bool false) HE.out R.out.2.2.2 hrn) ((((HW.out.1.weaken (fun i _ f => f.elim) : Keeps (fun k => k = rp) w W1).trans R.out.2.1)).then (keep4 (a0 := .int .i64 0) (a1 := .int .i64 0) (a2 := .string ⟨#[]⟩) (a3 := .bool false) w2 w.heap.size) (fun i hi e => by omega)))
  exact bodyPost_ret (v := .agg #[.int .i64 0, .int .i64 0, .string ⟨#[]⟩, .bool false]) (by simp [results, Tryz.results95, go_sem, g2, hsz2]) rfl (RV.mk (fun x h => by rw [R.out.2.2.1] at h; cases h) (HF.out.1.old ((Keeps.refl _ _).alloc _)) (HF.out.2.alloc _))
 | some x =>
  obtain ⟨n, l1⟩ := x
  have hn : n ≤ 3 := hbd _ rfl
  have hr' : Rr w2 rp (some l1) := hr
  have hwn : IntKind.i64.wrap (n : Int) = (n : Int) := by rw [IntKind.wrap_i64]; omega
  have hres := HRES.out
  simp only [Option.bind_some] at hres
  clear HRES hbd hr
  rcases (show n = 0 ∨ n = 1 ∨ n = 2 ∨ n = 3 by omega) with rfl | rfl | rfl | rfl
  ·simp only [Nat.zero_ne_one, if_false] at hres
   have hno : res = some (⟨0, 0, ⟨#[]⟩, false⟩, l1) := by simpa using hres
   have R := Lib.hid (And.intro hr' (And.intro k2 (And.intro hno b2)))
   clear hr' k2 hno b2 hres hn
   go_wp2_with fail
   have HE := Lib.hid (show Rr w2 rp (res.map (·.2)) by rw [R.out.2.2.1]; exact R.out.1)
   have HF := Lib.hid (And.intro (rv_end (a0 := .int .i64 0) (a1 := .int .i64 0) (a2 := .string ⟨#[]⟩) (a3 := .bool false) HE.out R.out.2.2.2 hrn) ((((HW.out.1.weaken (fun i _ f => f.elim) : Keeps (fun k => k = rp) w W1).trans R.out.2.1)).then (keep4 (a0 := .int .i64 0) (a1 := .int .i64 0) (a2 := .string ⟨#[]⟩) (a3 := .bool false) w2 w.heap.size) (fun i hi e => by omega)))
   exact bodyPost_ret (v := .agg #[.int .i64 0, .int .i64 0, .string ⟨#[]⟩, .bool false]) (by simp [results, Tryz.results95, go_sem, g2, hsz2]) rfl (RV.mk (fun x h => by rw [R.out.2.2.1] at h; cases h; rfl) (HF.out.1.old ((Keeps.refl _ _).alloc _)) (HF.out.2.alloc _))
  ·have hres' : res = (pInt l1).map fun y => (⟨1, y.1, ⟨#[]⟩, false⟩, y.2) := by simpa using hres
   obtain ⟨W2, hW2⟩ : ∃ W2, w2.alloc (.cells #[.int .i64 1, .int .i64 0, .string ⟨#[]⟩, .bool false] 69) = W2 := ⟨_, rfl⟩
   have kW : Old w2 W2 := by rw [← hW2]; exact (Keeps.refl _ _).alloc _
   have b3 : W2.heap[w2.heap.size]? = some (.cells #[.int .i64 1, .int .i64 0, .string ⟨#[]⟩, .bool false] 69 (0, 0)) := by rw [← hW2]; exact heap_alloc_new _ _
   have hrp2 : rp < W2.heap.size := by have := HW.out.1.size; have := k2.size; have := kW.size; omega
   have C2 := Lib.hid (rfsigned_any rp (some l1) W2 (Rr.old hr' kW) hrp2)
   have R := Lib.hid (And.intro (((HW.out.1.weaken (fun i _ f => f.elim) : Keeps (fun k => k = rp) w W1).trans k2).trans (kW.weaken (fun i _ f => f.elim))) (And.intro ((kW.block _ hsz2 (fun f => f)).trans b2) (And.intro b3 hres')))
   have hn3 : rp ≠ w2.heap.size := by have := HW.out.1.size; have := k2.size; omega
   have HW2 := Lib.hid hW2
   clear hr' k2 b2 hres hres' hn g2 kW b3 hW2
   go_wp2_with fail
   try rw [HW2.out]
   refine C2.out.mono ?_
   rintro e w3 ⟨rfl, hr3, k3⟩
   have b2 := (k3.block _ (lt_of_heap R.out.2.1) (fun e => hrn e.symm)).trans R.out.2.1
   have b3 := (k3.block _ (lt_of_heap R.out.2.2.1) (fun e => hn3 e.symm)).trans R.out.2.2.1
   have g2 := blk4 b2
   have g3 := blk4 b3
   obtain ⟨q2, hq2⟩ : ∃ q2, pInt l1 = q2 := ⟨_, rfl⟩
   have hr3' : Rr w3 rp (res.map (·.2)) := by rw [R.out.2.2.2]; simp only [Option.bind_some] at hr3; rw [hq2] at hr3 ⊢; cases q2 <;> exact hr3
   simp only [Option.bind_some]
   rw [hq2]
   obtain ⟨z, hz⟩ : ∃ z, q2.elim 0 (·.1) = z := ⟨_, rfl⟩
   rw [hz]
   have HX := Lib.hid (show ∀ x, res = some x → (⟨1, z, ⟨#[]⟩, false⟩ : Val) = x.1 from fun x hx => by
    rw [R.out.2.2.2, hq2] at hx
    cases q2 with
    | none => cases hx
    | some y => simp only [Option.map_some, Option.some.injEq] at hx; rw [← hx, ← hz]; rfl)
   have HF := Lib.hid (rv_fin (i := 1) (.int .i64 z) (.int .i64 1) (.int .i64 z) (.string ⟨#[]⟩) (.bool false) hr3' (R.out.1.trans k3) b2 b3 hrn hn3 (by omega) (Nat.le_refl _) (by omega))
   clear hr3 hr3' k3 b2 b3 hq2 hz C2
   go_wp2_with fail
   exact bodyPost_ret (v := .agg #[.int .i64 1, .int .i64 z, .string ⟨#[]⟩, .bool false]) (by simp [results, Tryz.results95, go_sem, g2]) rfl (RV.mk HX.out HF.out.1 HF.out.2)
  ·have hres' : res = (pText 32 l1).map fun y => (⟨2, 0, y.1, false⟩, y.2) := by simpa using hres
   obtain ⟨W2, hW2⟩ : ∃ W2, w2.alloc (.cells #[.int .i64 2, .int .i64 0, .string ⟨#[]⟩, .bool false] 69) = W2 := ⟨_, rfl⟩
   have kW : Old w2 W2 := by rw [← hW2]; exact (Keeps.refl _ _).alloc _
   have b3 : W2.heap[w2.heap.size]? = some (.cells #[.int .i64 2, .int .i64 0, .string ⟨#[]⟩, .bool false] 69 (0, 0)) := by rw [← hW2]; exact heap_alloc_new _ _
   have hrp2 : rp < W2.heap.size := by have := HW.out.1.size; have := k2.size; have := kW.size; omega
   have C2 := Lib.hid (rftext_any rp 32 (some l1) W2 (Rr.old hr' kW) (by decide))
   have R := Lib.hid (And.intro (((HW.out.1.weaken (fun i _ f => f.elim) : Keeps (fun k => k = rp) w W1).trans k2).trans (kW.weaken (fun i _ f => f.elim))) (And.intro ((kW.block _ hsz2 (fun f => f)).trans b2) (And.intro b3 hres')))
   have hn3 : rp ≠ w2.heap.size := by have := HW.out.1.size; have := k2.size; omega
   have HW2 := Lib.hid hW2
   clear hr' k2 b2 hres hres' hn g2 kW b3 hW2
   go_wp2_with fail
   try rw [HW2.out]
   refine C2.out.mono ?_
   rintro e w3 ⟨rfl, hr3, k3⟩
   have b2 := (k3.block _ (lt_of_heap R.out.2.1) (fun e => hrn e.symm)).trans R.out.2.1
   have b3 := (k3.block _ (lt_of_heap R.out.2.2.1) (fun e => hn3 e.symm)).trans R.out.2.2.1
   have g2 := blk4 b2
   have g3 := blk4 b3
   obtain ⟨q2, hq2⟩ : ∃ q2, pText 32 l1 = q2 := ⟨_, rfl⟩
   have hr3' : Rr w3 rp (res.map (·.2)) := by rw [R.out.2.2.2]; simp only [Option.bind_some] at hr3; rw [hq2] at hr3 ⊢; cases q2 <;> exact hr3
   simp only [Option.bind_some]
   rw [hq2]
   obtain ⟨z, hz⟩ : ∃ z, q2.elim ⟨#[]⟩ (·.1) = z := ⟨_, rfl⟩
   rw [hz]
   have HX := Lib.hid (show ∀ x, res = some x → (⟨2, 0, z, false⟩ : Val) = x.1 from fun x hx => by
    rw [R.out.2.2.2, hq2] at hx
    cases q2 with
    | none => cases hx
    | some y => simp only [Option.map_some, Option.some.injEq] at hx; rw [← hx, ← hz]; rfl)
   have HF := Lib.hid (rv_fin (i := 2) (.string z) (.int .i64 2) (.int .i64 0) (.string z) (.bool false) hr3' (R.out.1.trans k3) b2 b3 hrn hn3 (by omega) (Nat.le_refl _) (by omega))
   clear hr3 hr3' k3 b2 b3 hq2 hz C2
   go_wp2_with fail
   exact bodyPost_ret (v := .agg #[.int .i64 2, .int .i64 0, .string z, .bool false]) (by simp [results, Tryz.results95, go_sem, g2]) rfl (RV.mk HX.out HF.out.1 HF.out.2)
  ·have hres' : res = (pNum 1 l1).map fun y => (⟨3, 0, ⟨#[]⟩, y.1 == 1⟩, y.2) := by simpa using hres
   obtain ⟨W2, hW2⟩ : ∃ W2, w2.alloc (.cells #[.int .i64 3, .int .i64 0, .string ⟨#[]⟩, .bool false] 69) = W2 := ⟨_, rfl⟩
   have kW : Old w2 W2 := by rw [← hW2]; exact (Keeps.refl _ _).alloc _
   have b3 : W2.heap[w2.heap.size]? = some (.cells #[.int .i64 3, .int .i64 0, .string ⟨#[]⟩, .bool false] 69 (0, 0)) := by rw [← hW2]; exact heap_alloc_new _ _
   have hrp2 : rp < W2.heap.size := by have := HW.out.1.size; have := k2.size; have := kW.size; omega
   have C2 := Lib.hid (rfnum_any rp 1 (some l1) W2 (Rr.old hr' kW) (by decide))
   have R := Lib.hid (And.intro (((HW.out.1.weaken (fun i _ f => f.elim) : Keeps (fun k => k = rp) w W1).trans k2).trans (kW.weaken (fun i _ f => f.elim))) (And.intro ((kW.block _ hsz2 (fun f => f)).trans b2) (And.intro b3 hres')))
   have hn3 : rp ≠ w2.heap.size := by have := HW.out.1.size; have := k2.size; omega
   have HW2 := Lib.hid hW2
   clear hr' k2 b2 hres hres' hn g2 kW b3 hW2
   go_wp2_with fail
   try rw [HW2.out]
   refine C2.out.mono ?_
   rintro e w3 ⟨rfl, hr3, k3⟩
   have b2 := (k3.block _ (lt_of_heap R.out.2.1) (fun e => hrn e.symm)).trans R.out.2.1
   have b3 := (k3.block _ (lt_of_heap R.out.2.2.1) (fun e => hn3 e.symm)).trans R.out.2.2.1
   have g2 := blk4 b2
   have g3 := blk4 b3
   obtain ⟨q2, hq2⟩ : ∃ q2, pNum 1 l1 = q2 := ⟨_, rfl⟩
   have hr3' : Rr w3 rp (res.map (·.2)) := by rw [R.out.2.2.2]; simp only [Option.bind_some] at hr3; rw [hq2] at hr3 ⊢; cases q2 <;> exact hr3
   simp only [Option.bind_some]
   rw [hq2]
   obtain ⟨z, hz⟩ : ∃ z, q2.elim 0 (·.1) = z := ⟨_, rfl⟩
   rw [hz]
   have HX := Lib.hid (show ∀ x, res = some x → (⟨3, 0, ⟨#[]⟩, z == 1⟩ : Val) = x.1 from fun x hx => by
    rw [R.out.2.2.2, hq2] at hx
    cases q2 with
    | none => cases hx
    | some y => simp only [Option.map_some, Option.some.injEq] at hx; rw [← hx, ← hz]; rfl)
   have hbb : ((z : Int) == 1) = (z == 1) := by rw [Bool.eq_iff_iff]; simp; omega
   obtain ⟨bb, hb1⟩ : ∃ bb, (z == 1) = bb := ⟨_, rfl⟩
   rw [hb1] at hbb HX
   have HF := Lib.hid (rv_fin (i := 3) (.bool bb) (.int .i64 3) (.int .i64 0) (.string ⟨#[]⟩) (.bool bb) hr3' (R.out.1.trans k3) b2 b3 hrn hn3 (by omega) (Nat.le_refl _) (by omega))
   clear hr3 hr3' k3 b2 b3 hq2 hz C2 hb1
   go_wp2_with fail
   exact bodyPost_ret (v := .agg #[.int .i64 3, .int .i64 0, .string ⟨#[]⟩, .bool bb]) (by simp [results, Tryz.results95, go_sem, g2]) rfl (RV.mk HX.out HF.out.1 HF.out.2)
end
section
open Go.RowKit
def RE (w : World) (rp ep : Nat) (key : ByteArray) (s : List At) (st : Option (List UInt8)) (W : World) : Prop :=
 Rr W rp st ∧ (∃ v, W.heap[ep]? = some (.cells #[.string key, v] 27 (0, 0)) ∧ OwnsA W (ep + 1) v s) ∧ Keeps (fun k => k = rp ∨ ep ≤ k) w W
def REv (w : World) (rp : Nat) (res : Option ((ByteArray × List At) × List UInt8)) (e : Ending) (w' : World) : Prop :=
 (∃ (key : ByteArray) (p : Option Addr) (n c : Nat) (s : List At), e = .returned (.agg #[.string key, .slice p n c]) ∧ OwnsA w' w.heap.size (.slice p n c) s ∧ ∀ x, res = some x → key = x.1.1 ∧ s = x.1.2) ∧ (Rr w' rp (res.map (·.2)) ∧ Keeps (fun k => k = rp) w w')
theorem no_u8_ev (k : ByteArray) (v : Value) (hv : ∀ x, v ≠ u8 x) : ∀ (i : Nat) (x : UInt8), (#[.string k, v] : Array Value)[i]? ≠ some (u8 x) := by
 intro i x h
 rcases i with _ | _ | i
 ·simp [u8] at h
 ·simp at h; exact hv x h
 ·simp at h
theorem slice_no_u8 (p : Option Addr) (n c : Nat) : ∀ x, (.slice p n c : Value) ≠ u8 x := by intro x h; simp [u8] at h
theorem pAt_eq (l : List UInt8) : pAt l = (pText 16 l).bind fun x => (pVal x.2).map fun y => (⟨x.1, y.1⟩, y.2) := rfl
theorem rfevent_any (rp : Nat) (st : Option (List UInt8)) (w : World) (h : Rr w rp st) : Calls Tryz.prog 130 #[.pointer (some ⟨rp, 0, none⟩)] w (REv w rp (st.bind pEvent)) := by
 have hrp := h.lt
 obtain ⟨W0, hW0⟩ : ∃ W0, w.alloc (.cells #[.string ⟨#[]⟩, .slice none 0 0] 27) = W0 := ⟨_, rfl⟩
 have k0 : Old w W0 := by rw [← hW0]; exact (Keeps.refl _ _).alloc _
 have b0 : W0.heap[w.heap.size]? = some (.cells #[.string ⟨#[]⟩, .slice none 0 0] 27 (0, 0)) := by rw [← hW0]; exact heap_alloc_new _ _
 have CT := Lib.hid (rftext_any rp 16 st W0 (h.old k0) (by decide))
 have hres : st.bind pEvent = ((((st.bind (pText 16)).map (·.2)).bind (pNum 8)).bind fun x => pMany pAt x.1 [] x.2).map fun y => (((st.bind (pText 16)).elim ⟨#[]⟩ (·.1), y.1), y.2) := by
  cases st with
  | none => rfl
  | some l =>
   simp only [Option.bind_some]
   unfold pEvent
   cases pText 16 l with
   | none => rfl
   | some x => rfl
 generalize st.bind pEvent = res at hres ⊢
 generalize st.bind (pText 16) = qt at hres CT
 have HW := Lib.hid (And.intro k0 b0)
 have HRES := Lib.hid hres
 have hz0 : w.heap.size < W0.heap.size := lt_of_heap b0
 clear k0 b0 h hres
 go_enter Tryz.func130, Tryz.ntmps130
 go_wp2_with fail
 refine CT.out.mono ?_
 rintro e w1 ⟨rfl, hr1, k1⟩
 obtain ⟨key, hkey⟩ : ∃ key, qt.elim ⟨#[]⟩ (·.1) = key := ⟨_, rfl⟩
 obtain ⟨st1, hst1⟩ : ∃ s, qt.map (·.2) = s := ⟨_, rfl⟩
 have hres := HRES.out
 rw [hst1] at hr1 hres
 rw [hkey] at hres ⊢
 obtain ⟨W1, hW1⟩ : ∃ W1, w1.alloc (.cells #[.string key, .slice none 0 0] 27) = W1 := ⟨_, rfl⟩
 have o1 : Old w1 W1 := by rw [← hW1]; exact (Keeps.refl _ _).alloc _
 have b1 : W1.heap[w1.heap.size]? = some (.cells #[.string key, .slice none 0 0] 27 (0, 0)) := by rw [← hW1]; exact heap_alloc_new _ _
 have hz1 : w.heap.size < w1.heap.size := Nat.lt_of_lt_of_le hz0 k1.size
 have hz1' : w1.heap.size < W1.heap.size := lt_of_heap b1
 have CN := Lib.hid (rfnum_any rp 8 st1 W1 (hr1.old o1) (by decide))
 have hbd : ∀ x, st1.bind (pNum 8) = some x → x.1 ≤ 8 := by
  intro x hx
  cases st1 with
  | none => cases hx
  | some l => exact (pNum_inv (n := x.1) (r := x.2) hx).2.1
 generalize st1.bind (pNum 8) = qn at hres CN hbd
 have bw0 := (k1.block _ hz0 (by omega)).trans HW.out.2
 have G := Lib.hid (And.intro ((HW.out.1.weaken (fun i _ f => f.elim) : Keeps (fun k => k = rp) w W0).trans k1) (And.intro o1 (And.intro b1 ((o1.block _ (lt_of_heap bw0) (fun f => f)).trans bw0))))
 have HR := Lib.hid hres
 have HW1 := Lib.hid hW1
 clear hr1 k1 o1 b1 hres hkey hst1 CT HRES hW1 bw0
 go_wp2_with fail
 try rw [HW1.out]
 refine CN.out.mono ?_
 rintro e w2 ⟨rfl, hr2, k2⟩
 obtain ⟨n, hn⟩ : ∃ n, qn.elim 0 (·.1) = n := ⟨_, rfl⟩
 have hn8 : n ≤ 8 := by
  cases qn with
  | none => rw [← hn]; exact Nat.zero_le _
  | some x => rw [← hn]; exact hbd x rfl
 obtain ⟨M, hM⟩ : ∃ M, (qn.bind fun x => pMany pAt x.1 [] x.2) = M := ⟨_, rfl⟩
 have hM2 : M = (qn.map (·.2)).bind fun l' => pMany pAt (n - 0) [] l' := by
  rw [← hM]
  cases qn with
  | none => rfl
  | some x => rw [← hn]; rfl
 have hres := HR.out
 rw [hM] at hres
 have HRM := Lib.hid (And.intro hres hM2)
 have inv : RE w2 rp w1.heap.size key [] (qn.map (·.2)) w2 := ⟨hr2, ⟨_, (k2.block _ hz1' (by omega)).trans G.out.2.2.1, OwnsR.nil _ _⟩, Keeps.refl _ _⟩
 have G2 := Lib.hid (And.intro ((G.out.1.trans (G.out.2.1.weaken (fun i _ f => f.elim))).trans k2) (And.intro inv ((k2.block _ (lt_of_heap G.out.2.2.2) (by omega)).trans G.out.2.2.2)))
 have hz2 : w1.heap.size < w2.heap.size := Nat.lt_of_lt_of_le hz1' k2.size
 clear hr2 k2 hM hM2 hres inv hbd CN HW1 HR
 rw [hn]
 clear hn
 go_wp2_with fail
 go_loopw [5] (fun v5 wr => ∃ (i : Nat) (s : List At) (st' : Option (List UInt8)), i ≤ n ∧ s.length = i ∧ v5 = .int .u64 i ∧ M = st'.bind (fun l' => pMany pAt (n - i) s l') ∧ RE w2 rp w1.heap.size key s st' wr) (fun v5 _ => n - (intOf v5).toNat)
 case atStart => exact ⟨0, [], _, Nat.zero_le _, rfl, rfl, HRM.out.2, G2.out.2.1⟩
 case round =>
  obtain ⟨_, s, st', hi, rfl, rfl, hM, hR, ⟨v, hb, ho⟩, hk⟩ := hrel
  obtain ⟨pv, cv, rfl, _, _⟩ := (ho.sees (fun _ => rfl) (by decide)).len
  have g := blk2 hb
  have hb0 := (hk.block _ (lt_of_heap G2.out.2.2) (by omega)).trans G2.out.2.2
  have g0 := blk2 hb0
  have hMs : (s.length = n ∨ st' = none) → M = st'.map (fun l' => (s, l')) := by
   intro h
   rw [hM]
   cases st' with
   | none => rfl
   | some l' =>
    rcases h with h | h
    ·rw [← h]; simp [pMany]
    ·cases h
  have FIN : (s.length = n ∨ st' = none) → ∀ W, W = ((wr.setCell ⟨w.heap.size, 0, none⟩ (.string key)).setCell ⟨w.heap.size, 1, none⟩ (.slice pv s.length cv)) → REv w rp res (.returned (.agg #[.string key, .slice pv s.length cv])) W := by
   intro h W hW
   subst hW
   have hr : res = st'.map (fun l' => ((key, s), l')) := by
    rw [HRM.out.1, hMs h]; cases st' <;> rfl
   have kf : Keeps (fun k => k = w.heap.size) wr ((wr.setCell ⟨w.heap.size, 0, none⟩ (.string key)).setCell ⟨w.heap.size, 1, none⟩ (.slice pv s.length cv)) := keep2 _ _
   refine ⟨⟨key, pv, _, cv, s, rfl, (ho.mono (by omega)).keeps kf (fun b hb' e => by have := (ho.block b hb').1; omega), fun x hx => ?_⟩, ?_, ?_⟩
   ·rw [hr] at hx
    cases st' with
    | none => cases hx
    | some l' => simp only [Option.map_some, Option.some.injEq] at hx; rw [← hx]; exact ⟨rfl, rfl⟩
   ·have hr2 : res.map (·.2) = st' := by rw [hr]; cases st' <;> rfl
    rw [hr2]
    exact hR.apart kf (by omega) (fun b hb' _ => ⟨_, _, _, by subst hb'; exact hb0, no_u8_ev _ _ (slice_no_u8 _ _ _)⟩)
   ·exact (G2.out.1.then hk (fun j hj e => by omega)).then kf (fun j hj e => by omega)
  have HF := Lib.hid FIN
  have hn63 : n ≤ 9223372036854775807 := by omega
  have H := Lib.hid (And.intro hR (And.intro hb (And.intro ho (And.intro hk (And.intro hM hb0)))))
  clear FIN hMs hR hb ho hk hM hb0
  by_cases hlt : s.length < n
  ·cases st' with
   | none =>
    obtain ⟨pb, nb, cb, hrb⟩ := Rr.bad H.out.1
    have gr := blk2 hrb
    clear hrb
    go_wp2_with fail
    exact bodyPost_ret (v := .agg #[.string key, .slice pv s.length cv]) (by simp [results, Tryz.results130, go_sem, g0]) rfl (HF.out (by first | exact Or.inr rfl | exact Or.inr trivial | simp) _ rfl)
   | some l' =>
    obtain ⟨pb, cb, hrb, _, _⟩ := Rr.cells H.out.1
    have gr := blk2 hrb
    have CT2 := Lib.hid (rftext_any rp 16 (some l') wr H.out.1 (by decide))
    clear hrb HF
    go_wp2_with fail
    refine CT2.out.mono ?_
    rintro e w3 ⟨rfl, hr3, k3⟩
    obtain ⟨nm, hnm⟩ : ∃ nm, (((some l').bind (pText 16)).elim ⟨#[]⟩ (·.1) : ByteArray) = nm := ⟨_, rfl⟩
    obtain ⟨st3, hst3⟩ : ∃ s, ((some l').bind (pText 16)).map (·.2) = s := ⟨_, rfl⟩
    rw [hnm]
    rw [hst3] at hr3
    have b3 := (k3.block _ (lt_of_heap H.out.2.1) (by omega)).trans H.out.2.1
    have o3 := H.out.2.2.1.keeps k3 (fun b hb e => by have := (H.out.2.2.1.block b hb).1; omega)
    have hSt : M = (st3.bind pVal).bind fun y => pMany pAt (n - (s.length + 1)) (s ++ [⟨nm, y.1⟩]) y.2 := by
     have e1 : n - s.length = n - (s.length + 1) + 1 := by omega
     rw [H.out.2.2.2.2.1, ← hst3, ← hnm]
     simp only [Option.bind_some]
     rw [e1, pMany, pAt_eq]
     cases pText 16 l' with
     | none => rfl
     | some x => simp only [Option.bind_some, Option.map_some, Option.elim_some]; cases pVal x.2 <;> rfl
    have g3 := (blk2 b3).1.2
    have C := Lib.hid (And.intro hr3 (And.intro b3 (And.intro o3 (And.intro hSt (H.out.2.2.2.1.trans (k3.weaken (fun i _ e => Or.inl e)))))))
    have b30 := (k3.block _ (lt_of_heap H.out.2.2.2.2.2) (by omega)).trans H.out.2.2.2.2.2
    have C0 := Lib.hid b30
    clear hr3 b3 o3 hSt hnm hst3 k3 b30 g g0 gr CT2
    go_wp2_with fail
    refine wp_region_g (S := fun W' => W'.cell? ⟨w1.heap.size, 1, none⟩ = some (.slice pv s.length cv)) (M := [0, 1, 2, 3, 4, 5, 6, 7, 8]) (by kernel_rfl) ?_
    have hS : w3.drew.cell? ⟨w1.heap.size, 1, none⟩ = some (.slice pv s.length cv) := g3
    refine wpAnyG_takeL (i := 0) (oi := _) (v := ?va0) rfl (by kernel_rfl) (by kernel_rfl) (by kernel_rfl) (by kernel_rfl) (fun _ _ _ h => h) (Or.inl ⟨by rfl, ?ya0⟩) hS ?ra0
    case ya0 => (intro W hSw; go_simp; try with_reducible rfl)
    try simp only [Act.put, List.setIfInBounds_toArray, List.set_cons_zero, List.set_cons_succ]
    refine wpAnyG_takeL (i := 1) (oi := _) (v := ?va1) rfl (by kernel_rfl) (by kernel_rfl) (by kernel_rfl) (by kernel_rfl) (fun _ _ _ h => h) (Or.inl ⟨by rfl, ?ya1⟩) hS ?ra1
    case ya1 => (intro W hSw; go_simp; try with_reducible rfl)
    try simp only [Act.put, List.setIfInBounds_toArray, List.set_cons_zero, List.set_cons_succ]
    refine wpAnyG_takeL (i := 2) (oi := _) (v := ?va2) rfl (by kernel_rfl) (by kernel_rfl) (by kernel_rfl) (by kernel_rfl) (fun _ _ _ h => h) (Or.inl ⟨by rfl, ?ya2⟩) hS ?ra2
    case ya2 => (intro W hSw; go_simp; try with_reducible rfl)
    try simp only [Act.put, List.setIfInBounds_toArray, List.set_cons_zero, List.set_cons_succ]
    refine wpAnyG_takeL (i := 3) (oi := _) (v := ?va3) rfl (by kernel_rfl) (by kernel_rfl) (by kernel_rfl) (by kernel_rfl) (fun _ _ _ h => h) (Or.inl ⟨by rfl, ?ya3⟩) hS ?ra3
    case ya3 => (intro W hSw; go_simp; try with_reducible rfl)
    try simp only [Act.put, List.setIfInBounds_toArray, List.set_cons_zero, List.set_cons_succ]
    refine wpAnyG_onlyL (i := 4) (o := _) (by kernel_rfl) rfl (fun K hK => ?_)
    go_simp
    refine (rfvalue_any rp st3 _ (C.out.1.old (Keeps.refl _ _).drew)).mono ?_
    rintro e w4 ⟨⟨vv, rfl, hvv⟩, hr4, k4⟩
    have hS4 : w4.cell? ⟨w1.heap.size, 1, none⟩ = some (.slice pv s.length cv) := k4.cell hS (by dsimp only; omega)
    go_wp2_with fail
    refine hK.out _ _ (fun _ => hS4) ?_
    clear hK K
    try simp only [Act.put, List.setIfInBounds_toArray, List.set_cons_zero, List.set_cons_succ]
    refine wpAnyG_takeL (i := 5) (oi := _) (v := ?va5) rfl (by kernel_rfl) (by kernel_rfl) (by kernel_rfl) (by kernel_rfl) (fun _ _ _ h => h) (Or.inl ⟨by rfl, ?ya5⟩) hS4 ?ra5
    case ya5 => (intro W hSw; go_simp; try with_reducible rfl)
    try simp only [Act.put, List.setIfInBounds_toArray, List.set_cons_zero, List.set_cons_succ]
    have b4 := (k4.block _ (lt_of_heap C.out.2.1) (by omega)).trans C.out.2.1
    have o4 := (C.out.2.2.1.old ((Keeps.refl _ _).drew)).keeps k4 (fun b hb e => by have := (C.out.2.2.1.block b hb).1; omega)
    have hz4 : w1.heap.size + 1 ≤ w4.heap.size := lt_of_heap b4
    have F := Lib.hid (And.intro hr4 (And.intro k4 (And.intro hvv b4)))
    have OB := Lib.hid (fun b (hb : (Value.slice pv s.length cv).ownBlock = some b) => (o4.block b hb).1)
    have SN := Lib.hid (SeesR.new (k := 5) (enc := At.cells) w4 169 (0, 0) [(⟨nm, vv⟩ : At)] #[.string nm, .int .i64 vv.kind, .int .i64 vv.num, .string vv.str, .bool vv.is] (by simp [At.cells]) (fun _ => rfl) (by unfold maxLen; simp))
    have O4 := Lib.hid (o4.alloc (.cells #[.string nm, .int .i64 vv.kind, .int .i64 vv.num, .string vv.str, .bool vv.is] 169))
    have HN := Lib.hid (show s.length + 1 ≤ maxLen ∧ (s.length + 1) * 56 ≤ 140737488355328 from ⟨by unfold maxLen; omega, by omega⟩)
    clear hr4 k4 hvv b4 o4
    refine wpAnyG_onlyL (i := 6) (o := _) (by kernel_rfl) rfl (fun K hK => ?_)
    go_simp
    have hS5 : (w4.alloc (.cells #[.string nm, .int .i64 vv.kind, .int .i64 vv.num, .string vv.str, .bool vv.is] 169)).cell? ⟨w1.heap.size, 1, none⟩ = some (.slice pv s.length cv) := ((Keeps.refl (fun _ => False) w4).alloc _).cell hS4 (fun f => f)
    refine hK.out _ _ (fun _ => hS5) ?_
    clear hK K
    try simp only [Act.put, List.setIfInBounds_toArray, List.set_cons_zero, List.set_cons_succ]
    refine wpAnyG_onlyL (i := 7) (o := _) (by kernel_rfl) rfl (fun K hK => ?_)
    refine step_append_rows (P := Tryz.prog) rfl _ _ 25 rfl (w1.heap.size + 1) 169 5 56 At.cells _ Tryz.underlying25 Tryz.infoAttr rfl (by decide) (.slice pv s.length cv) s (by rfl) O4.out _ [(⟨nm, vv⟩ : At)] (by rfl) SN.out (fun _ _ => rfl) (by simp [At.cells, Value.oneCell']) HN.out.1 HN.out.2 (Nat.le_trans hz4 (by simp)) ?_
    intro v' w5 ho5 hg5 _
    obtain ⟨p', c', ev', _, _⟩ := (ho5.sees (fun _ => rfl) (by decide)).len
    subst ev'
    have k5 : Keeps (fun k => w1.heap.size < k) w4 w5 := ((Keeps.refl _ _).alloc _).grown hg5 (fun k hk _ => OB.out k hk)
    have hS6 : w5.cell? ⟨w1.heap.size, 1, none⟩ = some (.slice pv s.length cv) := k5.cell hS4 (by dsimp only; omega)
    have b5 := (k5.block _ (lt_of_heap F.out.2.2.2) (by omega)).trans F.out.2.2.2
    have g5 := (blk2 b5).1.2
    have g5f := (blk2 b5).2.2
    have E := Lib.hid (And.intro k5 (And.intro ho5 b5))
    clear k5 ho5 b5 hg5 hS5
    refine hK.out _ _ (fun _ => hS6) ?_
    clear hK K
    try simp only [Act.put, List.setIfInBounds_toArray, List.set_cons_zero, List.set_cons_succ]
    refine wpAnyG_takeL (i := 8) (oi := _) (v := ?va8) rfl (by kernel_rfl) (by kernel_rfl) (by kernel_rfl) (by kernel_rfl) (fun _ _ _ h => h) (Or.inl ⟨by rfl, ?ya8⟩) hS6 ?ra8
    case ya8 => (intro W hSw; go_simp; try with_reducible rfl)
    try simp only [Act.put, List.setIfInBounds_toArray, List.set_cons_zero, List.set_cons_succ]
    refine wpAnyG_onlyL (i := 9) (o := _) (by kernel_rfl) rfl (fun K hK => ?_)
    go_simp
    refine hK.out _ _ (fun h => absurd h (by decide)) ?_
    clear hK K
    refine wpAnyG_done (by kernel_rfl) ?_ _
    go_simp
    go_wp2_with fail
    go_roundw
    case rel =>
     have kF : Keeps (fun k => w1.heap.size ≤ k) w4 (w5.setCell ⟨w1.heap.size, 1, none⟩ (.slice p' (s ++ [(⟨nm, vv⟩ : At)]).length c')) := (E.out.1.weaken (fun i _ h => Nat.le_of_lt h)).setCell (fun _ => Nat.le_refl _) _
     have e1 : (s ++ [(⟨nm, vv⟩ : At)]).length = s.length + 1 := by simp
     rw [e1] at kF
     refine ⟨s.length + 1, s ++ [⟨nm, vv⟩], (st3.bind pVal).map (·.2), by omega, by simp, by go_num, ?_, F.out.1.above kF (fun b hb => by omega), ⟨.slice p' (s.length + 1) c', ?_, ?_⟩, ?_⟩
     ·rw [C.out.2.2.2.1]
      have hv := F.out.2.2.1
      cases hq : st3.bind pVal with
      | none => rfl
      | some y => rw [hv y hq]; rfl
     ·have := heap_setCell_same w5 w1.heap.size 1 _ _ (.slice p' (s.length + 1) c') E.out.2.2
      simpa using this
     ·have o5 := E.out.2.1
      rw [e1] at o5
      exact o5.keeps ((Keeps.refl (fun k => k = w1.heap.size) _).setCell (fun _ => rfl) _) (fun b hb e => by have := (o5.block b hb).1; omega)
     ·exact ((C.out.2.2.2.2.then (Keeps.refl (fun _ => False) w3).drew (fun _ _ f => f.elim)).then (F.out.2.1.weaken (fun i _ e => Or.inl e) : Keeps (fun k => k = rp ∨ w1.heap.size ≤ k) w3.drew w4) (fun i hi e => e)).then kF (fun i hi h => Or.inr h)
    case measure => simp [intOf]; omega
  ·have hin : s.length = n := by omega
   subst hin
   go_wp2_with fail
   exact bodyPost_ret (v := .agg #[.string key, .slice pv s.length cv]) (by simp [results, Tryz.results130, go_sem, g0]) rfl (HF.out (by first | exact Or.inl rfl | exact Or.inl trivial | simp) _ rfl)
end
end Go.Proofs.YtpjpimahnnekkaaGreat
