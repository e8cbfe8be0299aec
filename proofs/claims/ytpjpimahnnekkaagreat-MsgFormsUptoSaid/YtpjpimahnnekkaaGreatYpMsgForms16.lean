/- DERIVED. codec.TakeEvent. · DERIVED. The contracts of the writer of constraints, and of codec.PutPred. -/
import Derived.Test.YtpjpimahnnekkaaGreatYpMsgForms14
import Derived.Test.YtpjpimahnnekkaaGreatYpMsgForms15
import Derived.Defers
import Derived.Recover
set_option maxRecDepth 100000
set_option maxHeartbeats 2000000
namespace Go.Proofs.YtpjpimahnnekkaaGreat
section
open Go.RowKit
theorem set4 {w : World} {b : Nat} {t : TypeId} {x0 x1 x2 x3 a0 a1 a2 a3 : Value} (h : w.heap[b]? = some (.cells #[x0, x1, x2, x3] t (0, 0))) : ((((w.setCell ⟨b, 0, none⟩ a0).setCell ⟨b, 1, none⟩ a1).setCell ⟨b, 2, none⟩ a2).setCell ⟨b, 3, none⟩ a3).heap[b]? = some (.cells #[a0, a1, a2, a3] t (0, 0)) := by
 have h0 := heap_setCell_same w b 0 _ _ a0 h
 have h1 := heap_setCell_same _ b 1 _ _ a1 h0
 have h2 := heap_setCell_same _ b 2 _ _ a2 h1
 have h3 := heap_setCell_same _ b 3 _ _ a3 h2
 simpa using h3
theorem set1 {w : World} {b : Nat} {t : TypeId} {x0 a0 : Value} (h : w.heap[b]? = some (.cells #[x0] t (0, 0))) : (w.setCell ⟨b, 0, none⟩ a0).heap[b]? = some (.cells #[a0] t (0, 0)) := by
 have h0 := heap_setCell_same w b 0 _ _ a0 h
 simpa using h0
theorem keepS {ep : Nat} {a b : World} {i : Nat} (u : Value) (h : Keeps (fun k => k = ep) a b) : Keeps (fun k => k = ep) a (b.setCell ⟨ep, i, none⟩ u) := h.setCell (fun _ => rfl) u
theorem keep1 {a0 : Value} (w : World) (b : Nat) : Keeps (fun k => k = b) w (w.setCell ⟨b, 0, none⟩ a0) := keepS _ (Keeps.refl _ _)
theorem keep2 {a0 a1 : Value} (w : World) (b : Nat) : Keeps (fun k => k = b) w ((w.setCell ⟨b, 0, none⟩ a0).setCell ⟨b, 1, none⟩ a1) := keepS _ (keepS _ (Keeps.refl _ _))
theorem keep4 {a0 a1 a2 a3 : Value} (w : World) (b : Nat) : Keeps (fun k => k = b) w ((((w.setCell ⟨b, 0, none⟩ a0).setCell ⟨b, 1, none⟩ a1).setCell ⟨b, 2, none⟩ a2).setCell ⟨b, 3, none⟩ a3) := keepS _ (keepS _ (keepS _ (keepS _ (Keeps.refl _ _))))
theorem keep5 {a0 a1 a2 a3 a4 : Value} (w : World) (b : Nat) : Keeps (fun k => k = b) w (((((w.setCell ⟨b, 0, none⟩ a0).setCell ⟨b, 1, none⟩ a1).setCell ⟨b, 2, none⟩ a2).setCell ⟨b, 3, none⟩ a3).setCell ⟨b, 4, none⟩ a4) := keepS _ (keepS _ (keepS _ (keepS _ (keepS _ (Keeps.refl _ _)))))
def takeE (l : List UInt8) : Option (ByteArray × List At) := (pEvent l).bind fun x => if evOk x.1.1 x.1.2 && decide (x.2 = []) then some x.1 else none
def TkE (w : World) (res : Option (ByteArray × List At)) (e : Ending) (w' : World) : Prop :=
 Old w w' ∧ match res with
 | some x => ∃ p n c, e = .returned (.tuple #[.agg #[.string x.1, .slice p n c], .int .i64 0]) ∧ OwnsA w' w.heap.size (.slice p n c) x.2
 | none => e = .returned (.tuple #[.agg #[.string ⟨#[]⟩, .slice none 0 0], .int .i64 5])
theorem TkE.no {w w' : World} {res : Option (ByteArray × List At)} (h : res = none) (k : Old w w') : TkE w res (.returned (.tuple #[.agg #[.string ⟨#[]⟩, .slice none 0 0], .int .i64 5])) w' := by subst h; exact ⟨k, rfl⟩
theorem TkE.yes {w w' : World} {res : Option (ByteArray × List At)} {key : ByteArray} {es : List At} {p : Option Addr} {n c : Nat} (h : res = some (key, es)) (k : Old w w') (ho : OwnsA w' w.heap.size (.slice p n c) es) : TkE w res (.returned (.tuple #[.agg #[.string key, .slice p n c], .int .i64 0])) w' := by subst h; exact ⟨k, p, n, c, rfl, ho⟩
end
section
open Go.RowKit
def conForm (c : PCon) : List UInt8 := form c.name.size ++ c.name.toList ++ form c.op.toNat ++
 (if c.op = 1 then [] else if c.op = 9 then form c.set.length ++ c.set.flatMap valForm else valForm c.val)
def predForm (l : List PCon) : List UInt8 := form l.length ++ l.flatMap conForm
def ConR (x : Con) : Prop := VFits x.val ∧ ∀ v ∈ x.set, VFits v
theorem conOk_parts {x : Con} (h : conOk x = true) : x.name.size ≤ 16 ∧ 1 ≤ x.op ∧ x.op ≤ 9 ∧ (x.op = 9 → x.set.length ≤ 6 ∧ ∀ v ∈ x.set, v.ok = true) ∧ (x.op ≠ 1 → x.op ≠ 9 → x.val.ok = true) := by
 unfold conOk at h
 simp only [Bool.and_eq_true, decide_eq_true_eq] at h
 obtain ⟨⟨h1, h2⟩, h3⟩ := h
 by_cases o1 : x.op = 1
 ·rw [if_pos o1] at h3; exact ⟨h2, by omega, by omega, fun h => by omega, fun h => absurd o1 h⟩
 ·rw [if_neg o1] at h3
  by_cases o2 : 2 ≤ x.op ∧ x.op ≤ 7
  ·rw [if_pos o2] at h3; simp at h3; exact ⟨h2, by omega, by omega, fun h => by omega, fun _ _ => h3.1⟩
  ·rw [if_neg o2] at h3
   by_cases o3 : x.op = 8
   ·rw [if_pos o3] at h3; simp at h3; exact ⟨h2, by omega, by omega, fun h => by omega, fun _ _ => h3.1⟩
   ·rw [if_neg o3] at h3
    by_cases o4 : x.op = 9
    ·rw [if_pos o4] at h3; simp at h3; exact ⟨h2, by omega, by omega, fun _ => ⟨h3.2.2.1, fun v hv => h3.2.2.2 v hv⟩, fun _ h => absurd o4 h⟩
    ·rw [if_neg o4] at h3; cases h3
theorem vals_le {l : List Val} (h : ∀ v ∈ l, v.ok = true) (hf : ∀ v ∈ l, VFits v) : (l.flatMap valForm).length ≤ 60 * l.length := by
 induction l with
 | nil => simp
 | cons v r ih =>
  have h1 := valForm_le (h v (by simp)) (hf v (by simp))
  have h2 := ih (fun x hx => h x (by simp [hx])) (fun x hx => hf x (by simp [hx]))
  simp only [List.flatMap_cons, List.length_append, List.length_cons]
  omega
theorem conForm_le {x : Con} (h : conOk x = true) (hr : ConR x) : (conForm x.plain).length ≤ 500 := by
 obtain ⟨h1, h2, h3, h4, h5⟩ := conOk_parts h
 have f1 : (form x.name.size).length ≤ 10 := form_le10 (by omega)
 have f2 : (form x.op.toNat).length ≤ 10 := form_le10 (by omega)
 unfold conForm Con.plain
 simp only [List.length_append, size_toList]
 split
 ·simp; omega
 ·split
  ·rename_i o1 o9
   have f3 : (form x.set.length).length ≤ 10 := form_le10 (by have := (h4 o9).1; omega)
   have := vals_le (h4 o9).2 hr.2
   have := (h4 o9).1
   simp only [List.length_append]; omega
  ·rename_i o1 o9
   have := valForm_le (h5 o1 o9) hr.1
   omega
theorem wcon_any (B pw : Nat) (l : List UInt8) (x : Con) (w : World) (h : Wr w B pw l) (hl : l.length ≤ 999990000) (hs : SeesV w x.sv x.set) (hne : 0 < x.set.length → ∀ k, x.sv.ownBlock = some k → k ≠ pw) (hok : conOk x = true) (hr : ConR x) :
  Calls Tryz.prog 75 #[.pointer (some ⟨pw, 0, none⟩), .agg x.cells.toArray] w (Laid w B pw (l ++ conForm x.plain)) := by
 obtain ⟨h16, ho1, ho9, hset, hval⟩ := conOk_parts hok
 obtain ⟨nm, op, ⟨vk, vn, vs, vi⟩, sv, set⟩ := x
 unfold Con.cells conForm Con.plain
 simp only at h16 ho1 ho9 hset hval hs hne hr ⊢
 obtain ⟨q, rfl⟩ := Int.eq_ofNat_of_zero_le (show 0 ≤ op by omega)
 rw [Int.toNat_natCast]
 have hw := h.lt
 have hnb : pw ≠ w.heap.size := by omega
 obtain ⟨p, c, rfl, hc1, hc2⟩ := hs.len
 have hmx : set.length ≤ 9223372036854775807 := by unfold maxLen at hc2; omega
 generalize hW0 : w.alloc (.cells #[.string nm, .int .i64 q, .int .i64 vk, .int .i64 vn, .string vs, .bool vi, .slice p set.length c] 72) = W0
 have k0 : Old w W0 := by rw [← hW0]; exact (Keeps.refl _ _).alloc _
 have hb0 : W0.heap[w.heap.size]? = some (.cells #[.string nm, .int .i64 q, .int .i64 vk, .int .i64 vn, .string vs, .bool vi, .slice p set.length c] 72 (0, 0)) := by rw [← hW0]; exact heap_alloc_new _ _
 have e0 := (blk7 hb0).1.1
 have fk : (form nm.size).length ≤ 10 := form_le10 (by omega)
 have fq : (form q).length ≤ 10 := form_le10 (by omega)
 have C := Lib.hid (wtext_any B pw l nm W0 (h.old k0) (by omega) (by omega))
 have H := Lib.hid (And.intro k0 (And.intro hb0 (And.intro hs (And.intro hne (And.intro hset (And.intro hval hr))))))
 clear k0 hb0 h hok hs hne hr hset hval
 have hq9 : q ≤ 9 := by omega
 have hq1 : 1 ≤ q := by omega
 have hwr : IntKind.u64.wrap (q : Int) = (q : Int) := by rw [IntKind.wrap_u64]; omega
 by_cases o1 : q = 1
 ·subst o1
  have hW1 : w.alloc (.cells #[.string nm, .int .i64 1, .int .i64 vk, .int .i64 vn, .string vs, .bool vi, .slice p set.length c] 72) = W0 := hW0
  clear hW0 hwr
  go_enter Tryz.func75, Tryz.ntmps75
  go_wp2_with fail
  refine C.out.mono ?_
  rintro e w1 ⟨rfl, hwr1, hk1⟩
  have m1 := (hk1.block _ (lt_of_heap H.out.2.1) (fun f => hnb f.symm)).trans H.out.2.1
  have q1 := (blk7 m1).1.2.1
  have C2 := Lib.hid (wnum_any B pw _ 1 w1 hwr1 (by simp only [List.length_append, size_toList]; omega) (by omega))
  have K := Lib.hid ((H.out.1.weaken (fun _ _ f => f.elim) : Keeps (fun k => k = pw) w W0).trans hk1)
  have M1 := Lib.hid m1
  clear hwr1 hk1 m1 e0 C
  go_wp2_with fail
  refine C2.out.mono ?_
  rintro e w2 ⟨rfl, hwr2, hk2⟩
  have m2 := (hk2.block _ (lt_of_heap M1.out) (fun f => hnb f.symm)).trans M1.out
  have q2 := (blk7 m2).1.2.1
  have R := Lib.hid (And.intro hwr2 (K.out.trans hk2))
  clear hwr2 hk2 C2 m2 q1
  go_wp2_with fail
  go_end0
  exact ⟨rfl, by simpa using R.out.1, R.out.2⟩
 ·have t1 : ((q : Int) == 1) = false := by simp; omega
  by_cases o9 : q = 9
  ·subst o9
   have hW1 : w.alloc (.cells #[.string nm, .int .i64 9, .int .i64 vk, .int .i64 vn, .string vs, .bool vi, .slice p set.length c] 72) = W0 := hW0
   have hq6 := H.out.2.2.2.2.1 (by omega)
   have h6 := hq6.1
   have Q6 := Lib.hid hq6.2
   clear hq6 hW0 hwr t1 o1
   go_enter Tryz.func75, Tryz.ntmps75
   go_wp2_with fail
   refine C.out.mono ?_
   rintro e w1 ⟨rfl, hwr1, hk1⟩
   have m1 := (hk1.block _ (lt_of_heap H.out.2.1) (fun f => hnb f.symm)).trans H.out.2.1
   have q1 := (blk7 m1).1.2.1
   have C2 := Lib.hid (wnum_any B pw _ 9 w1 hwr1 (by simp only [List.length_append, size_toList]; omega) (by omega))
   have K := Lib.hid ((H.out.1.weaken (fun _ _ f => f.elim) : Keeps (fun k => k = pw) w W0).trans hk1)
   have M1 := Lib.hid m1
   clear hwr1 hk1 m1 e0 C
   go_wp2_with fail
   refine C2.out.mono ?_
   rintro e w2 ⟨rfl, hwr2, hk2⟩
   have m2 := (hk2.block _ (lt_of_heap M1.out) (fun f => hnb f.symm)).trans M1.out
   have q2 := (blk7 m2).1
   have fs : (form set.length).length ≤ 10 := form_le10 (by omega)
   have C3 := Lib.hid (wnum_any B pw _ set.length w2 hwr2 (by simp only [List.length_append, size_toList]; omega) (by omega))
   have K2 := Lib.hid (K.out.trans hk2)
   have M2 := Lib.hid m2
   clear hwr2 hk2 C2 m2 q1
   go_wp2_with fail
   refine C3.out.mono ?_
   rintro e w3 ⟨rfl, hwr3, hk3⟩
   have m3 := (hk3.block _ (lt_of_heap M2.out) (fun f => hnb f.symm)).trans M2.out
   have q3 := (blk7 m3).1.2.2.2.2.2.2
   generalize hl0 : l ++ form nm.size ++ nm.toList ++ form 9 ++ form set.length = l0 at hwr3
   have hlen2 : l0.length ≤ l.length + 46 := by rw [← hl0]; simp only [List.length_append, size_toList]; omega
   have L0 := Lib.hid hl0
   have R := Lib.hid (And.intro hwr3 (K2.out.trans hk3))
   clear hwr3 hk3 C3 m3 q2 hl0
   go_wp2_with fail
   go_loopw [34] (fun v34 wr => ∃ k : Nat, k ≤ set.length ∧ v34 = .int .i64 k ∧ Wr wr B pw (l0 ++ (set.take k).flatMap valForm) ∧ Keeps (fun k => k = pw) w wr) (fun v34 _ => set.length - (intOf v34).toNat)
   case atStart => exact ⟨0, by omega, rfl, by simpa using R.out.1, R.out.2⟩
   case round =>
    obtain ⟨k, hk, rfl, hwk, hkp⟩ := hrel
    by_cases hlt : k < set.length
    ·obtain ⟨b, o, c', he, _, _, hc⟩ := H.out.2.2.1.at (by omega)
     simp only [Value.slice.injEq, true_and] at he
     obtain ⟨rfl, rfl⟩ := he
     have hx : set[k]? = some set[k] := List.getElem?_eq_getElem hlt
     generalize set[k] = a at hx
     have hbp : b ≠ pw := H.out.2.2.2.1 (by omega) b rfl
     have cell : ∀ i u, (valL a)[i]? = some u → wr.cell? ⟨b, o + k * 4 + i, none⟩ = some u := fun i u hu => hkp.cell (hc k a hx i u hu) hbp
     have c0 := cell 0 _ rfl
     have c1 := cell 1 _ rfl
     have c2 := cell 2 _ rfl
     have c3 := cell 3 _ rfl
     simp only [Nat.add_zero] at c0
     have hmem := List.mem_of_getElem? hx
     have hvok := Q6.out a hmem
     have hfit := H.out.2.2.2.2.2.2.2 a hmem
     have hvl : ((set.take k).flatMap valForm).length ≤ 60 * (set.take k).length := vals_le (fun v hv => Q6.out v (List.mem_of_mem_take hv)) (fun v hv => H.out.2.2.2.2.2.2.2 v (List.mem_of_mem_take hv))
     have htk : (set.take k).length ≤ 6 := by simp; omega
     have hlen3 : (l0 ++ (set.take k).flatMap valForm).length ≤ l.length + 1000 := by simp only [List.length_append]; omega
     have hwl := hwk.lt
     have k3 : Old wr (wr.alloc (.cells #[.int .i64 a.kind, .int .i64 a.num, .string a.str, .bool a.is] 69)) := (Keeps.refl _ _).alloc _
     have C4' := wvalue_any B pw _ a _ (hwk.old k3) (by omega) hvok hfit
     unfold Val.cells at C4'
     have C4 := Lib.hid C4'
     have HX := Lib.hid (And.intro hx (hkp.alloc (.cells #[.int .i64 a.kind, .int .i64 a.num, .string a.str, .bool a.is] 69)))
     clear cell hx k3 hkp hvok hwk hc hfit C4' hvl htk hmem
     go_wp2_with fail
     refine C4.out.mono ?_
     rintro e w5 ⟨rfl, hwr5, hk5⟩
     have R6 := Lib.hid (And.intro hwr5 hk5)
     clear hwr5 hk5 C4
     go_wp2_with fail
     go_roundw
     case rel => exact ⟨k + 1, by omega, by go_num, by rw [List.take_add_one, HX.out.1]; simpa using R6.out.1, HX.out.2.trans R6.out.2⟩
     case measure => simp [intOf]; omega
    ·have R5 := Lib.hid (And.intro hwk hkp)
     clear hwk hkp
     go_wp2_with fail
     go_end0
     refine ⟨rfl, ?_, R5.out.2⟩
     have h1 := R5.out.1
     rw [List.take_of_length_le (by omega), ← L0.out] at h1
     simpa using h1
  ·have t9 : ((q : Int) == 9) = false := by simp; omega
   have hvok := H.out.2.2.2.2.2.1 (by omega) (by omega)
   go_enter Tryz.func75, Tryz.ntmps75
   go_wp2_with fail
   refine C.out.mono ?_
   rintro e w1 ⟨rfl, hwr1, hk1⟩
   have m1 := (hk1.block _ (lt_of_heap H.out.2.1) (fun f => hnb f.symm)).trans H.out.2.1
   have q1 := (blk7 m1).1.2.1
   have C2 := Lib.hid (wnum_any B pw _ q w1 hwr1 (by simp only [List.length_append, size_toList]; omega) (by omega))
   have K := Lib.hid ((H.out.1.weaken (fun _ _ f => f.elim) : Keeps (fun k => k = pw) w W0).trans hk1)
   have M1 := Lib.hid m1
   clear hwr1 hk1 m1 e0 C
   go_wp2_with fail
   refine C2.out.mono ?_
   rintro e w2 ⟨rfl, hwr2, hk2⟩
   have m2 := (hk2.block _ (lt_of_heap M1.out) (fun f => hnb f.symm)).trans M1.out
   have q2 := (blk7 m2).1
   have C3' := wvalue_any B pw _ ⟨vk, vn, vs, vi⟩ w2 hwr2 (by simp only [List.length_append, size_toList]; omega) hvok H.out.2.2.2.2.2.2.1
   unfold Val.cells at C3'
   simp only at C3'
   have C3 := Lib.hid C3'
   have K2 := Lib.hid (K.out.trans hk2)
   clear hwr2 hk2 C2 m2 q1 C3' hvok
   go_wp2_with fail
   refine C3.out.mono ?_
   rintro e w3 ⟨rfl, hwr3, hk3⟩
   have R := Lib.hid (And.intro hwr3 (K2.out.trans hk3))
   clear hwr3 hk3 C3
   go_wp2_with fail
   go_end0
   exact ⟨rfl, by first | (rw [if_neg (by omega), if_neg (by omega)]; simpa using R.out.1) | simpa using R.out.1, R.out.2⟩
end
section
open Go.RowKit
theorem Con.fine.ranges {w : World} {x : Con} (h : x.fine w) : ConR x := ⟨h.2.1.2, h.2.2.1⟩
theorem predOk_parts {l : List Con} (h : predOk l = true) : l.length ≤ 6 ∧ ∀ x ∈ l, conOk x = true := by
 unfold predOk at h; simp at h; exact h
theorem cons_le {l : List Con} (h : ∀ x ∈ l, conOk x = true) (hr : ∀ x ∈ l, ConR x) : ((l.map Con.plain).flatMap conForm).length ≤ 500 * l.length := by
 induction l with
 | nil => simp
 | cons x r ih =>
  have h1 := conForm_le (h x (by simp)) (hr x (by simp))
  have h2 := ih (fun y hy => h y (by simp [hy])) (fun y hy => hr y (by simp [hy]))
  simp only [List.map_cons, List.flatMap_cons, List.length_append, List.length_cons]
  omega
theorem put_pred1_any (B pw eb : Nat) (l : List UInt8) (v : Value) (cs : List Con) (w : World) (h : Wr w B pw l) (hl : l.length ≤ 999900000)
  (hb : w.heap[eb]? = some (.cells #[v] 24 (0, 0))) (hc : Cons w v cs) (hne : 0 < cs.length → ∀ k, v.ownBlock = some k → k ≠ pw) (hnx : ∀ x ∈ cs, 0 < x.set.length → ∀ k, x.sv.ownBlock = some k → k ≠ pw) (hok : predOk cs = true) :
  Calls Tryz.prog 73 #[.pointer (some ⟨pw, 0, none⟩), .pointer (some ⟨eb, 0, none⟩)] w (Laid w B pw (l ++ predForm (cs.map Con.plain))) := by
 obtain ⟨h6, hcok⟩ := predOk_parts hok
 obtain ⟨p, c, rfl, _, _⟩ := hc.1.len
 have hep : eb ≠ pw := by
  intro e; subst e
  obtain ⟨u, h1, _⟩ := h
  rw [h1] at hb
  simp at hb
 have q0 := (blk1 hb).1
 have fn : (form cs.length).length ≤ 10 := form_le10 (by omega)
 have C := Lib.hid (wnum_any B pw l cs.length w h (by omega) (by omega))
 have H := Lib.hid (And.intro hb (And.intro hc (And.intro hne (And.intro hnx hcok))))
 clear h hb hc hne hnx hcok hok
 go_enter Tryz.func73, Tryz.ntmps73
 go_wp2_with fail
 refine C.out.mono ?_
 rintro e w1 ⟨rfl, hwr1, hk1⟩
 have m1 := (hk1.block _ (lt_of_heap H.out.1) hep).trans H.out.1
 have q1 := (blk1 m1).1
 obtain ⟨l0, hl0⟩ : ∃ l0, l ++ form cs.length = l0 := ⟨_, rfl⟩
 rw [hl0] at hwr1
 have hlen2 : l0.length ≤ l.length + 10 := by rw [← hl0]; simp only [List.length_append]; omega
 have L0 := Lib.hid hl0
 have R := Lib.hid (And.intro hwr1 hk1)
 clear hwr1 hk1 C m1 q0 hl0
 go_wp2_with fail
 go_loopw [12] (fun v12 wr => ∃ k : Nat, k ≤ cs.length ∧ v12 = .int .i64 k ∧ Wr wr B pw (l0 ++ ((cs.take k).map Con.plain).flatMap conForm) ∧ Keeps (fun k => k = pw) w wr) (fun v12 _ => cs.length - (intOf v12).toNat)
 case atStart => exact ⟨0, by omega, rfl, by simpa using R.out.1, R.out.2⟩
 case round =>
  obtain ⟨k, hk, rfl, hwk, hkp⟩ := hrel
  by_cases hlt : k < cs.length
  ·obtain ⟨b, o, c', he, _, _, hcell⟩ := H.out.2.1.1.at (by omega)
   simp only [Value.slice.injEq, true_and] at he
   obtain ⟨rfl, rfl⟩ := he
   have hx : cs[k]? = some cs[k] := List.getElem?_eq_getElem hlt
   generalize cs[k] = a at hx
   obtain ⟨p9, c9, e9, _, _⟩ := (H.out.2.1.2 a (List.mem_of_getElem? hx)).1.len
   obtain ⟨an, ao, av, asv, ast⟩ := a
   simp only at e9
   subst e9
   have hbp : b ≠ pw := H.out.2.2.1 (by omega) b rfl
   have cell : ∀ i u, (Con.mk an ao av (.slice p9 ast.length c9) ast).cells[i]? = some u → wr.cell? ⟨b, o + k * 7 + i, none⟩ = some u := fun i u hu => hkp.cell (hcell k _ hx i u hu) hbp
   have c0 := cell 0 _ rfl
   have c1 := cell 1 _ rfl
   have c2 := cell 2 _ rfl
   have c3 := cell 3 _ rfl
   have c4 := cell 4 _ rfl
   have c5 := cell 5 _ rfl
   have c6 := cell 6 _ rfl
   simp only [Nat.add_zero] at c0
   have hmem := List.mem_of_getElem? hx
   have hfine := H.out.2.1.2 _ hmem
   have hvok := H.out.2.2.2.2 _ hmem
   have hsee : SeesV wr (.slice p9 ast.length c9) ast := by
    obtain ⟨p2, c2', e2, hs1, hs2⟩ := hfine.1.len
    rcases Nat.eq_zero_or_pos ast.length with h0 | h0
    ·have h00 := List.eq_nil_of_length_eq_zero h0
     have := hfine.1
     obtain ⟨p3, c3', e3, g1, g2, g3, g4⟩ := this
     exact ⟨p3, c3', e3, g1, g2, g3, fun ad had => ⟨(g4 ad had).1, fun j x hj => by rw [h00] at hj; cases hj⟩⟩
    ·exact hfine.1.keeps hkp (fun b' hb' => H.out.2.2.2.1 _ hmem h0 b' hb')
   have hcl : (((cs.take k).map Con.plain).flatMap conForm).length ≤ 500 * (cs.take k).length := cons_le (fun x hx => H.out.2.2.2.2 x (List.mem_of_mem_take hx)) (fun x hx => (H.out.2.1.2 x (List.mem_of_mem_take hx)).ranges)
   have htk : (cs.take k).length ≤ 6 := by simp; omega
   have hlen3 : (l0 ++ ((cs.take k).map Con.plain).flatMap conForm).length ≤ l.length + 4000 := by simp only [List.length_append]; omega
   have hwl := hwk.lt
   have k3 : Old wr (wr.alloc (.cells #[.string an, .int .i64 ao, .int .i64 av.kind, .int .i64 av.num, .string av.str, .bool av.is, (.slice p9 ast.length c9)] 72)) := (Keeps.refl _ _).alloc _
   have C4 := Lib.hid (show Calls Tryz.prog 75 #[.pointer (some ⟨pw, 0, none⟩), .agg #[.string an, .int .i64 ao, .int .i64 av.kind, .int .i64 av.num, .string av.str, .bool av.is, (.slice p9 ast.length c9)]] _ _ from wcon_any B pw _ ⟨an, ao, av, .slice p9 ast.length c9, ast⟩ _ (hwk.old k3) (by omega) (hsee.old k3) (H.out.2.2.2.1 _ hmem) hvok hfine.ranges)
   have HX := Lib.hid (And.intro hx (hkp.alloc (.cells #[.string an, .int .i64 ao, .int .i64 av.kind, .int .i64 av.num, .string av.str, .bool av.is, (.slice p9 ast.length c9)] 72)))
   clear cell hx k3 hkp hvok hwk hcell hfine hsee hcl htk hmem
   go_wp2_with fail
   refine C4.out.mono ?_
   rintro e w5 ⟨rfl, hwr5, hk5⟩
   have R6 := Lib.hid (And.intro hwr5 hk5)
   clear hwr5 hk5 C4
   go_wp2_with fail
   go_roundw
   case rel => exact ⟨k + 1, by omega, by go_num, by rw [List.take_add_one, HX.out.1]; simpa using R6.out.1, HX.out.2.trans R6.out.2⟩
   case measure => simp [intOf]; omega
  ·have R5 := Lib.hid (And.intro hwk hkp)
   clear hwk hkp
   go_wp2_with fail
   go_end0
   refine ⟨rfl, ?_, R5.out.2⟩
   have h1 := R5.out.1
   rw [List.take_of_length_le (by omega), ← L0.out] at h1
   simpa [predForm] using h1
theorem put_pred_any (v : Value) (cs : List Con) (w : World) (hc : Cons w v cs) (hlt : 0 < cs.length → ∀ k, v.ownBlock = some k → k < w.heap.size) (hok : predOk cs = true) :
  Calls Tryz.prog 30 #[v] w (Formed w (predForm (cs.map Con.plain))) := by
 have hmf : ∀ (fn : Fn) (first cap : Array Value) (w : World), (Instr.makeFunc fn first cap).run Tryz.prog w = .ok (.func fn first cap) w := fun _ _ _ _ => rfl
 have M := fun W h => pred_may_any v cs W (hc.old h)
 rw [hok] at M
 generalize hW0 : w.alloc (.cells #[v] 24) = W0
 have k0 : Old w W0 := by rw [← hW0]; exact (Keeps.refl _ _).alloc _
 have hb0 : W0.heap[w.heap.size]? = some (.cells #[v] 24 (0, 0)) := by rw [← hW0]; exact heap_alloc_new _ _
 have q0 := (blk1 hb0).1
 have C := Lib.hid (M W0 k0)
 have H := Lib.hid (And.intro k0 (And.intro hb0 (And.intro hc hlt)))
 obtain ⟨p, c, rfl, _, _⟩ := hc.1.len
 clear M k0 hb0 hc hlt
 go_enter Tryz.func30, Tryz.ntmps30
 go_wp2_with fail
 refine C.out.mono ?_
 rintro e w1 ⟨rfl, hk1⟩
 obtain ⟨k0, hb0, hc, hlt⟩ := H.out
 have F := Lib.hid (form_yes_any 73 w.heap.size (predForm (cs.map Con.plain)) w1 (fun args W => by simp [go_sem, callFunc, Tryz.func73]; rfl) (fun W pw hO hp hwr => by
  have hx := put_pred1_any w1.heap.size pw w.heap.size [] _ cs W hwr (by simp) ((hO.block _ (by have := k0.size; have := hk1.size; have := lt_of_heap hb0; omega) (fun f => f)).trans ((hk1.block _ (lt_of_heap hb0) (fun f => f)).trans hb0))
   (hc.old ((k0.trans hk1).trans hO)) (fun h0 k hk => by have := hlt h0 k hk; have := k0.size; have := hk1.size; omega) (fun x hx h0 k hk => by have := (hc.2 x hx).2.2.2 h0 k hk; have := k0.size; have := hk1.size; omega) hok
  simpa using hx))
 have K := Lib.hid (k0.trans hk1)
 clear k0 hb0 hc hlt hk1
 go_wp2_with fail
 refine F.out.mono ?_
 rintro e w2 ⟨p2, n2, c2, rfl, ho2, hk2⟩
 have R := Lib.hid (And.intro ho2 hk2)
 clear ho2 hk2
 go_wp2_with fail
 go_ret2
 exact ⟨p2, n2, c2, rfl, R.out.1.mono K.out.size, K.out.trans R.out.2⟩
theorem put_pred_no_any (v : Value) (cs : List Con) (w : World) (hc : Cons w v cs) (hok : predOk cs = false) :
  Calls Tryz.prog 30 #[v] w fun e w' => e = .returned (.tuple #[.slice none 0 0, .int .i64 30]) ∧ Old w w' := by
 have hmf : ∀ (fn : Fn) (first cap : Array Value) (w : World), (Instr.makeFunc fn first cap).run Tryz.prog w = .ok (.func fn first cap) w := fun _ _ _ _ => rfl
 have M := fun W h => pred_may_any v cs W (hc.old h)
 rw [hok] at M
 generalize hW0 : w.alloc (.cells #[v] 24) = W0
 have k0 : Old w W0 := by rw [← hW0]; exact (Keeps.refl _ _).alloc _
 have hb0 : W0.heap[w.heap.size]? = some (.cells #[v] 24 (0, 0)) := by rw [← hW0]; exact heap_alloc_new _ _
 have q0 := (blk1 hb0).1
 have C := Lib.hid (M W0 k0)
 have H := Lib.hid k0
 obtain ⟨p, c, rfl, _, _⟩ := hc.1.len
 clear M k0 hb0 hc
 go_enter Tryz.func30, Tryz.ntmps30
 go_wp2_with fail
 refine C.out.mono ?_
 rintro e w1 ⟨rfl, hk1⟩
 have K := Lib.hid (H.out.trans hk1)
 clear hk1
 go_wp2_with fail
 refine (form_no_any _ _).mono ?_
 rintro e w2 ⟨rfl, rfl⟩
 go_wp2_with fail
 go_ret2
 exact ⟨rfl, K.out⟩
end
section
open Go.RowKit
def itOk (x : PIt) : Bool := decide (1 ≤ x.n) && (decide (x.n ≤ 1099511627776) && (decide (x.time ≤ 1099511627776) && evOk x.key x.es))
def itForm (x : PIt) : List UInt8 := form x.n ++ form x.time ++ evForm x.key x.es
theorem itForm_le {x : PIt} (h : itOk x = true) (hf : Fits x.es) : (itForm x).length ≤ 820 := by
 unfold itOk at h
 simp at h
 have h1 : (form x.n).length ≤ 10 := form_le10 (by omega)
 have h2 : (form x.time).length ≤ 10 := form_le10 (by omega)
 have h3 := evForm_le h.2.2.2 hf
 unfold itForm
 simp only [List.length_append]
 omega
theorem may_item_any (x : It) (w : World) (h : x.fine w) : Calls Tryz.prog 23 #[.agg x.cells.toArray] w fun e w' => e = .returned (.bool (itOk x.plain)) ∧ Old w w' := by
 have M := fun W (k : Old w W) => ev_may_any x.key x.av x.es W (h.1.old k)
 obtain ⟨n, t, key, av, es⟩ := x
 obtain ⟨p, c, e9, _, _⟩ := h.1.len
 simp only at e9
 subst e9
 unfold It.cells itOk It.plain
 simp only at M ⊢
 have hn := h.2.2.2.1
 have ht := h.2.2.2.2
 simp only at hn ht
 generalize hW0 : w.alloc (.cells #[.int .u64 n, .int .u64 t, .string key, .slice p es.length c] 29) = W0
 have k0 : Old w W0 := by rw [← hW0]; exact (Keeps.refl _ _).alloc _
 have hb0 : W0.heap[w.heap.size]? = some (.cells #[.int .u64 n, .int .u64 t, .string key, .slice p es.length c] 29 (0, 0)) := by rw [← hW0]; exact heap_alloc_new _ _
 have g := (blk4 hb0).1
 have C := Lib.hid (M W0 k0)
 have H := Lib.hid k0
 clear M k0 hb0 h
 by_cases a : 1 ≤ n
 ·have a1 : decide (1 ≤ n) = true := decide_eq_true a
  have a2 : decide ((1 : Int) ≤ (n : Int)) = true := by simp; omega
  by_cases b : n ≤ 1099511627776
  ·have b1 : decide (n ≤ 1099511627776) = true := decide_eq_true b
   have b2 : decide ((n : Int) ≤ 1099511627776) = true := by simp; omega
   by_cases d : t ≤ 1099511627776
   ·have d1 : decide (t ≤ 1099511627776) = true := decide_eq_true d
    have d2 : decide ((t : Int) ≤ 1099511627776) = true := by simp; omega
    go_enter Tryz.func23, Tryz.ntmps23
    go_wp2_with fail
    refine C.out.mono ?_
    rintro e w1 ⟨rfl, hk⟩
    have K := Lib.hid (H.out.trans hk)
    clear hk
    go_wp2_with fail
    go_ret
    exact ⟨by first | rfl | simp [a, b, d], K.out⟩
   ·have d1 : decide (t ≤ 1099511627776) = false := decide_eq_false d
    have d2 : decide ((t : Int) ≤ 1099511627776) = false := by simp; omega
    go_enter Tryz.func23, Tryz.ntmps23
    go_wp2_with fail
    go_ret
    exact ⟨by first | rfl | simp, H.out⟩
  ·have b1 : decide (n ≤ 1099511627776) = false := decide_eq_false b
   have b2 : decide ((n : Int) ≤ 1099511627776) = false := by simp; omega
   go_enter Tryz.func23, Tryz.ntmps23
   go_wp2_with fail
   go_ret
   exact ⟨by first | rfl | simp, H.out⟩
 ·have a1 : decide (1 ≤ n) = false := decide_eq_false a
  have a2 : decide ((1 : Int) ≤ (n : Int)) = false := by simp; omega
  go_enter Tryz.func23, Tryz.ntmps23
  go_wp2_with fail
  go_ret
  exact ⟨by first | rfl | simp, H.out⟩
theorem witem_any (B pw : Nat) (l : List UInt8) (x : It) (w : World) (h : Wr w B pw l) (hl : l.length ≤ 999980000) (hf : x.fine w) (hne : 0 < x.es.length → ∀ k, x.av.ownBlock = some k → k ≠ pw) (hok : itOk x.plain = true) :
  Calls Tryz.prog 77 #[.pointer (some ⟨pw, 0, none⟩), .agg x.cells.toArray] w (Laid w B pw (l ++ itForm x.plain)) := by
 obtain ⟨n, t, key, av, es⟩ := x
 obtain ⟨p, c, e9, _, _⟩ := hf.1.len
 simp only at e9
 subst e9
 unfold itOk It.plain at hok
 simp only [Bool.and_eq_true, decide_eq_true_eq] at hok
 unfold It.cells itForm It.plain
 simp only at hne ⊢
 have hw := h.lt
 have hnb : pw ≠ w.heap.size := by omega
 generalize hW0 : w.alloc (.cells #[.int .u64 n, .int .u64 t, .string key, .slice p es.length c] 29) = W0
 have k0 : Old w W0 := by rw [← hW0]; exact (Keeps.refl _ _).alloc _
 have hb0 : W0.heap[w.heap.size]? = some (.cells #[.int .u64 n, .int .u64 t, .string key, .slice p es.length c] 29 (0, 0)) := by rw [← hW0]; exact heap_alloc_new _ _
 have g := (blk4 hb0).1
 have f1 : (form n).length ≤ 10 := form_le10 (by omega)
 have f2 : (form t).length ≤ 10 := form_le10 (by omega)
 have C := Lib.hid (wnum_any B pw l n W0 (h.old k0) (by omega) (by omega))
 have H := Lib.hid (And.intro k0 (And.intro hb0 (And.intro hf (And.intro hne hok))))
 have ht2 : t < 18446744073709551616 := by omega
 clear k0 hb0 h hf hne hok
 go_enter Tryz.func77, Tryz.ntmps77
 go_wp2_with fail
 refine C.out.mono ?_
 rintro e w1 ⟨rfl, hwr1, hk1⟩
 have m1 := (hk1.block _ (lt_of_heap H.out.2.1) (fun f => hnb f.symm)).trans H.out.2.1
 have g1 := (blk4 m1).1
 have C2 := Lib.hid (wnum_any B pw _ t w1 hwr1 (by simp only [List.length_append]; omega) ht2)
 have K := Lib.hid (And.intro ((H.out.1.weaken (fun _ _ f => f.elim) : Keeps (fun k => k = pw) w W0).trans hk1) m1)
 clear hwr1 hk1 m1 g C
 go_wp2_with fail
 refine C2.out.mono ?_
 rintro e w2 ⟨rfl, hwr2, hk2⟩
 have m2 := (hk2.block _ (lt_of_heap K.out.2) (fun f => hnb f.symm)).trans K.out.2
 have g2 := (blk4 m2).1
 have K2 := K.out.1.trans hk2
 have hsee : SeesA w2 (.slice p es.length c) es := by
  obtain ⟨hs, hlt, _⟩ := H.out.2.2.1
  rcases Nat.eq_zero_or_pos es.length with h0 | h0
  ·have h00 := List.eq_nil_of_length_eq_zero h0
   obtain ⟨p3, c3', e3, q1, q2, q3, q4⟩ := hs
   exact ⟨p3, c3', e3, q1, q2, q3, fun ad had => ⟨(q4 ad had).1, fun j x hj => by rw [h00] at hj; cases hj⟩⟩
  ·exact SeesR.keeps hs K2 (fun b' hb' => H.out.2.2.2.1 h0 b' hb')
 have C3 := Lib.hid (wevent_any B pw _ key _ es w2 hwr2 (by simp only [List.length_append]; omega) hsee H.out.2.2.2.1 H.out.2.2.2.2.2.2.2 H.out.2.2.1.2.2.1)
 have R2 := Lib.hid K2
 clear hwr2 hk2 m2 K2 hsee C2 g1
 go_wp2_with fail
 refine C3.out.mono ?_
 rintro e w3 ⟨rfl, hwr3, hk3⟩
 have R := Lib.hid (And.intro hwr3 (R2.out.trans hk3))
 clear hwr3 hk3
 go_wp2_with fail
 go_end0
 exact ⟨rfl, by simpa using R.out.1, R.out.2⟩
theorem put_item1_any (B pw eb : Nat) (l : List UInt8) (x : It) (w : World) (h : Wr w B pw l) (hl : l.length ≤ 999980000)
  (hb : w.heap[eb]? = some (.cells x.cells.toArray 29 (0, 0))) (hf : x.fine w) (hne : 0 < x.es.length → ∀ k, x.av.ownBlock = some k → k ≠ pw) (hok : itOk x.plain = true) :
  Calls Tryz.prog 76 #[.pointer (some ⟨pw, 0, none⟩), .pointer (some ⟨eb, 0, none⟩)] w (Laid w B pw (l ++ itForm x.plain)) := by
 have C := Lib.hid (witem_any B pw l x w h hl hf hne hok)
 obtain ⟨n, t, key, av, es⟩ := x
 have g := (blk4 hb).1
 clear h hf hne hb
 unfold It.cells at C
 go_enter Tryz.func76, Tryz.ntmps76
 go_wp2_with fail
 refine C.out.mono ?_
 rintro e w1 ⟨rfl, hwr, hk⟩
 have K := Lib.hid (And.intro hwr hk)
 clear hwr hk
 go_wp2_with fail
 go_end0
 exact ⟨rfl, K.out.1, K.out.2⟩
theorem put_item_any (x : It) (w : World) (hf : x.fine w) (hok : itOk x.plain = true) :
  Calls Tryz.prog 31 #[.agg x.cells.toArray] w (Formed w (itForm x.plain)) := by
 have hmf : ∀ (fn : Fn) (first cap : Array Value) (w : World), (Instr.makeFunc fn first cap).run Tryz.prog w = .ok (.func fn first cap) w := fun _ _ _ _ => rfl
 have M := fun W k => may_item_any x W (It.fine.old hf k)
 rw [hok] at M
 have P1 := Lib.hid (fun B pw eb l W => put_item1_any B pw eb l x W)
 obtain ⟨n, t, key, av, es⟩ := x
 obtain ⟨p, c, e9, _, _⟩ := hf.1.len
 simp only at e9
 subst e9
 unfold It.cells at M P1 ⊢
 simp only at M P1 ⊢
 generalize hW0 : w.alloc (.cells #[.int .u64 n, .int .u64 t, .string key, .slice p es.length c] 29) = W0
 have k0 : Old w W0 := by rw [← hW0]; exact (Keeps.refl _ _).alloc _
 have hb0 : W0.heap[w.heap.size]? = some (.cells #[.int .u64 n, .int .u64 t, .string key, .slice p es.length c] 29 (0, 0)) := by rw [← hW0]; exact heap_alloc_new _ _
 have g := (blk4 hb0).1
 have C := Lib.hid (M W0 k0)
 have H := Lib.hid (And.intro k0 (And.intro hb0 hf))
 clear M k0 hb0 hf
 go_enter Tryz.func31, Tryz.ntmps31
 go_wp2_with fail
 refine C.out.mono ?_
 rintro e w1 ⟨rfl, hk1⟩
 obtain ⟨k0, hb0, hf⟩ := H.out
 have F := Lib.hid (form_yes_any 76 w.heap.size (itForm (It.plain ⟨n, t, key, .slice p es.length c, es⟩)) w1 (fun args W => by simp [go_sem, callFunc, Tryz.func76]; rfl) (fun W pw hO hp hwr => by
  have hx := P1.out w1.heap.size pw w.heap.size [] W hwr (by simp) ((hO.block _ (by have := k0.size; have := hk1.size; have := lt_of_heap hb0; omega) (fun f => f)).trans ((hk1.block _ (lt_of_heap hb0) (fun f => f)).trans hb0))
   (It.fine.old hf ((k0.trans hk1).trans hO)) (fun h0 k hk => by have := hf.2.1 h0 k hk; have := k0.size; have := hk1.size; omega) hok
  simpa using hx))
 have K := Lib.hid (k0.trans hk1)
 clear k0 hb0 hf hk1
 go_wp2_with fail
 refine F.out.mono ?_
 rintro e w2 ⟨p2, n2, c2, rfl, ho2, hk2⟩
 have R := Lib.hid (And.intro ho2 hk2)
 clear ho2 hk2
 go_wp2_with fail
 go_ret2
 exact ⟨p2, n2, c2, rfl, R.out.1.mono K.out.size, K.out.trans R.out.2⟩
theorem put_item_no_any (x : It) (w : World) (hf : x.fine w) (hok : itOk x.plain = false) :
  Calls Tryz.prog 31 #[.agg x.cells.toArray] w fun e w' => e = .returned (.tuple #[.slice none 0 0, .int .i64 30]) ∧ Old w w' := by
 have hmf : ∀ (fn : Fn) (first cap : Array Value) (w : World), (Instr.makeFunc fn first cap).run Tryz.prog w = .ok (.func fn first cap) w := fun _ _ _ _ => rfl
 have M := fun W k => may_item_any x W (It.fine.old hf k)
 rw [hok] at M
 obtain ⟨n, t, key, av, es⟩ := x
 obtain ⟨p, c, e9, _, _⟩ := hf.1.len
 simp only at e9
 subst e9
 unfold It.cells at M ⊢
 simp only at M ⊢
 generalize hW0 : w.alloc (.cells #[.int .u64 n, .int .u64 t, .string key, .slice p es.length c] 29) = W0
 have k0 : Old w W0 := by rw [← hW0]; exact (Keeps.refl _ _).alloc _
 have hb0 : W0.heap[w.heap.size]? = some (.cells #[.int .u64 n, .int .u64 t, .string key, .slice p es.length c] 29 (0, 0)) := by rw [← hW0]; exact heap_alloc_new _ _
 have g := (blk4 hb0).1
 have C := Lib.hid (M W0 k0)
 have H := Lib.hid k0
 clear M k0 hb0 hf
 go_enter Tryz.func31, Tryz.ntmps31
 go_wp2_with fail
 refine C.out.mono ?_
 rintro e w1 ⟨rfl, hk1⟩
 have K := Lib.hid (H.out.trans hk1)
 clear hk1
 go_wp2_with fail
 refine (form_no_any _ _).mono ?_
 rintro e w2 ⟨rfl, rfl⟩
 go_wp2_with fail
 go_ret2
 exact ⟨rfl, K.out⟩
end
end Go.Proofs.YtpjpimahnnekkaaGreat
