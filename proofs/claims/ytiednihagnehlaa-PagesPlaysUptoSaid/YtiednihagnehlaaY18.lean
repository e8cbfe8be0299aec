/- DERIVED. Chapter 21: the form of a message; msg.Put. · DERIVED. Chapter 21: msg.reader: num, read. · DERIVED. Chapter 21: msg.read. · DERIVED. Chapter 21: msg.Put. · DERIVED. Chapter 21: the parts of a Kind, told as new. -/
import Derived.Test.YtiednihagnehlaaY17
import Derived.Test.YtiednihagnehlaaY02
namespace Go.Proofs.Ytiednihagnehlaa
open Go.RowKit Go.Great

/-- a part's form -/
def partForm (m : PMs) (p : Int) : List UInt8 :=
 if p = 0 then form m.pub.toNat else if p = 1 then form m.ver else if p = 2 then form (if m.there then 1 else 0) else if p = 3 then (if m.kind = 1 ∧ m.there = false then [] else tform (predForm m.ps)) else if p = 4 then tform (itForm m.it)
 else if p = 5 then form m.tb.toNat ++ form m.tl ++ form m.tc else if p = 6 then form m.frm else tform (pageForm m.pg)
/-- a message's form -/
def mForm (m : PMs) : List UInt8 := form m.kind.toNat ++ (partsL m.kind).flatMap (partForm m)
theorem parts_mem {k p : Int} (h : p ∈ partsL k) : (1 ≤ k ∧ k ≤ 6) ∧ (0 ≤ p ∧ p ≤ 7) := by
 unfold partsL at h
 by_cases h1 : k = 1
 ·subst h1; simp at h; omega
 by_cases h2 : k = 2
 ·subst h2; simp at h; omega
 by_cases h3 : k = 3
 ·subst h3; simp at h; omega
 by_cases h4 : k = 4
 ·subst h4; simp at h; omega
 by_cases h5 : k = 5
 ·subst h5; simp at h; omega
 by_cases h6 : k = 6
 ·subst h6; simp at h; omega
 simp [h1, h2, h3, h4, h5, h6] at h
theorem parts_len (k : Int) : (partsL k).length ≤ 4 := by unfold partsL; split <;> (try split) <;> (try split) <;> (try split) <;> (try split) <;> (try split) <;> simp
theorem mayM_parts {m : PMs} (h : mayM m = true) : (1 ≤ m.kind ∧ m.kind ≤ 6) ∧ ∀ p ∈ partsL m.kind, rightM m p = true := by
 unfold mayM at h
 rw [Bool.and_eq_true, List.all_eq_true, decide_eq_true_eq] at h
 obtain ⟨h1, h2⟩ := h
 refine ⟨?_, fun p hp => ?_⟩
 ·obtain ⟨p, hp⟩ := List.exists_mem_of_length_pos h2
  exact (parts_mem hp).1
 ·obtain ⟨n, rfl⟩ : ∃ n : Nat, p = n := ⟨p.toNat, by have := (parts_mem hp).2; omega⟩
  have := h1 n (by have := (parts_mem hp).2; simp; omega)
  unfold partOk at this
  rwa [if_pos hp] at this
theorem tform_le (F : List UInt8) (h : F.length < 18446744073709551616) : (tform F).length ≤ 10 + F.length := by
 unfold tform
 have := form_le10 h
 simp only [List.length_append]
 omega
theorem predForm_le {w : World} {v : Value} {cs : List Con} (h : Cons w v cs) (hok : okP (cs.map Con.plain) = true) : (predForm (cs.map Con.plain)).length ≤ 3100 := by
 obtain ⟨h6, hall⟩ := okP_parts hok
 simp only [List.length_map] at h6
 have h3 := cons_le (l := cs) (fun x hx => by rw [conOk_plain]; exact hall _ (List.mem_map_of_mem hx)) (fun x hx => (h.2 x hx).ranges)
 have h4 : (form (cs.map Con.plain).length).length ≤ 10 := form_le10 (by simp; omega)
 unfold predForm
 simp only [List.length_append]
 omega
theorem pageForm_le {w : World} {x : Pg} (hf : x.fine w) (hok : pgOk x.plain = true) : (pageForm x.plain).length ≤ 4000 := by
 obtain ⟨fr, en, iv, its, gv, gs, last⟩ := x
 obtain ⟨⟨hi, hif, hg⟩, hgr, ⟨hfr, hen⟩, _⟩ := hf
 unfold pgOk topOk Pg.plain at hok
 simp only [List.length_map, Bool.and_eq_true, decide_eq_true_eq] at hok
 obtain ⟨⟨ha, hb', hc, h4, h16⟩, hio, hgo⟩ := hok
 have hits := itsOk_mem en _ _ hio
 have h1 := its_le (l := its) (fun y hy => hits _ (List.mem_map_of_mem hy)) (fun y hy => (hif y hy).2.2.1)
 have h2 := gaps_le hgr
 have fa : (form fr).length ≤ 10 := form_le10 hfr
 have fb : (form en).length ≤ 10 := form_le10 hen
 have fc : (form its.length).length ≤ 10 := form_le10 (by omega)
 have fd : (form gs.length).length ≤ 10 := form_le10 (by omega)
 have fe : (form (if last = true then 1 else 0)).length ≤ 10 := form_le10 (by split <;> decide)
 unfold pageForm Pg.plain
 simp only [List.length_append, List.length_map]
 simp only at h2
 omega
theorem right0' {m : PMs} (h : rightM m 0 = true) : 0 ≤ m.pub ∧ m.pub < 256 := by
 unfold rightM homeZ at h
 simp only [if_true, decide_eq_true_eq] at h
 split at h <;> omega
theorem right3' {m : PMs} (h : rightM m 3 = true) (hc : ¬ (m.kind = 1 ∧ m.there = false)) : okP m.ps = true := by
 unfold rightM at h
 simp only [show ¬ ((3 : Int) = 0) by decide, show ¬ ((3 : Int) = 1) by decide, if_false, if_true] at h
 cases ho : okP m.ps with
 | true => rfl
 | false =>
  rw [ho] at h
  simp at h
  exact absurd ⟨h.1, h.2.1⟩ hc
theorem right4' {m : PMs} (h : rightM m 4 = true) : itOk m.it = true := by
 unfold rightM at h
 simp only [show ¬ ((4 : Int) = 0) by decide, show ¬ ((4 : Int) = 1) by decide, show ¬ ((4 : Int) = 3) by decide, if_false, if_true] at h
 exact h
theorem right5' {m : PMs} (h : rightM m 5 = true) : (0 ≤ m.tb ∧ m.tb < 64) ∧ (numOk m.tl = true ∧ numOk m.tc = true) := by
 unfold rightM at h
 simp only [show ¬ ((5 : Int) = 0) by decide, show ¬ ((5 : Int) = 1) by decide, show ¬ ((5 : Int) = 3) by decide, show ¬ ((5 : Int) = 4) by decide, if_false, if_true, Bool.and_eq_true, decide_eq_true_eq] at h
 exact ⟨⟨h.1, h.2.1⟩, h.2.2⟩
theorem right7' {m : PMs} (h : rightM m 7 = true) : pgOk m.pg = true := by
 unfold rightM at h
 simp only [show ¬ ((7 : Int) = 0) by decide, show ¬ ((7 : Int) = 1) by decide, show ¬ ((7 : Int) = 3) by decide, show ¬ ((7 : Int) = 4) by decide, show ¬ ((7 : Int) = 5) by decide, show ¬ ((7 : Int) = 6) by decide, if_false, if_true] at h
 exact h
theorem part_le {m : Ms} {w : World} (h : m.fine w) {p : Int} (hp : 0 ≤ p ∧ p ≤ 7) (hr : rightM m.plain p = true) : (partForm m.plain p).length ≤ 5000 := by
 have f1 : ∀ n, n < 18446744073709551616 → (form n).length ≤ 10 := fun n h => form_le10 h
 obtain ⟨h1, h2, h3, h4, h5⟩ := h
 unfold U64 at h5
 obtain rfl | rfl | rfl | rfl | rfl | rfl | rfl | rfl : p = 0 ∨ p = 1 ∨ p = 2 ∨ p = 3 ∨ p = 4 ∨ p = 5 ∨ p = 6 ∨ p = 7 := by omega
 ·have := right0' hr
  have := f1 m.plain.pub.toNat (by omega)
  unfold partForm
  simp only [if_true]
  omega
 ·have := f1 m.plain.ver h5.1
  unfold partForm
  simp only [show ¬ ((1 : Int) = 0) by decide, if_false, if_true]
  omega
 ·have := f1 (if m.plain.there then 1 else 0) (by split <;> decide)
  unfold partForm
  simp only [show ¬ ((2 : Int) = 0) by decide, show ¬ ((2 : Int) = 1) by decide, if_false, if_true]
  omega
 ·unfold partForm
  simp only [show ¬ ((3 : Int) = 0) by decide, show ¬ ((3 : Int) = 1) by decide, show ¬ ((3 : Int) = 2) by decide, if_false, if_true]
  split
  ·simp
  ·have ho := right3' hr (by assumption)
   have hl := predForm_le h1.1 ho
   have := tform_le (predForm m.plain.ps) (by have : m.plain.ps = m.ps.map Con.plain := rfl; rw [this]; omega)
   have e : m.plain.ps = m.ps.map Con.plain := rfl
   rw [e] at this ⊢
   omega
 ·have ho := right4' hr
  have hl := itForm_le (x := m.it.plain) ho h2.2.2.1
  have := tform_le (itForm m.it.plain) (by omega)
  unfold partForm
  simp only [show ¬ ((4 : Int) = 0) by decide, show ¬ ((4 : Int) = 1) by decide, show ¬ ((4 : Int) = 2) by decide, show ¬ ((4 : Int) = 3) by decide, if_false, if_true]
  show (tform (itForm m.it.plain)).length ≤ 5000
  omega
 ·have ho := right5' hr
  have a := f1 m.plain.tb.toNat (by omega)
  have b := f1 m.plain.tl h5.2.1
  have c := f1 m.plain.tc h5.2.2.1
  unfold partForm
  simp only [show ¬ ((5 : Int) = 0) by decide, show ¬ ((5 : Int) = 1) by decide, show ¬ ((5 : Int) = 2) by decide, show ¬ ((5 : Int) = 3) by decide, show ¬ ((5 : Int) = 4) by decide, if_false, if_true, List.length_append]
  omega
 ·have := f1 m.plain.frm h5.2.2.2
  unfold partForm
  simp only [show ¬ ((6 : Int) = 0) by decide, show ¬ ((6 : Int) = 1) by decide, show ¬ ((6 : Int) = 2) by decide, show ¬ ((6 : Int) = 3) by decide, show ¬ ((6 : Int) = 4) by decide, show ¬ ((6 : Int) = 5) by decide, if_false, if_true]
  omega
 ·have ho := right7' hr
  have hl := pageForm_le h3 ho
  have := tform_le (pageForm m.pg.plain) (by omega)
  unfold partForm
  simp only [show ¬ ((7 : Int) = 0) by decide, show ¬ ((7 : Int) = 1) by decide, show ¬ ((7 : Int) = 2) by decide, show ¬ ((7 : Int) = 3) by decide, show ¬ ((7 : Int) = 4) by decide, show ¬ ((7 : Int) = 5) by decide, show ¬ ((7 : Int) = 6) by decide, if_false]
  show (tform (pageForm m.pg.plain)).length ≤ 5000
  omega
theorem flat_le {m : Ms} {w : World} (h : m.fine w) : ∀ (l : List Int), (∀ p ∈ l, (0 ≤ p ∧ p ≤ 7) ∧ rightM m.plain p = true) → (l.flatMap (partForm m.plain)).length ≤ 5000 * l.length
 | [], _ => by simp
 | p :: r, hh => by
  have h1 := part_le h (hh p (by simp)).1 (hh p (by simp)).2
  have h2 := flat_le h r (fun q hq => hh q (by simp [hq]))
  simp only [List.flatMap_cons, List.length_append, List.length_cons]
  omega
end Go.Proofs.Ytiednihagnehlaa

namespace Go.Proofs.Ytiednihagnehlaa
open Go.RowKit

/-- the greatest number that is read -/
abbrev mMost : Nat := 1099511627777
/-- what a method of the reader may turn -/
abbrev QK (qb rb : Nat) (w w' : World) : Prop := Keeps (fun k => k = qb ∨ k = rb) w w'

end Go.Proofs.Ytiednihagnehlaa

namespace Go.Proofs.Ytiednihagnehlaa
open Go.RowKit

/-- a string of bytes -/
def pB (l : List UInt8) : Option (List UInt8 × List UInt8) := if (readBytes l 1048576).2.1 = 0 then some ((readBytes l 1048576).1, (readBytes l 1048576).2.2) else none
/-- a part by its form -/
def pPart {α : Type} (take : List UInt8 → Option α) (l : List UInt8) : Option (α × List UInt8) := (pB l).bind fun x => (take x.1).map fun y => (y, x.2)
theorem OwnN.mono' {α : Type} {w : World} {B B' : Nat} {E : TypeId} {k : Nat} {enc : α → List Value} {nv : α → Value} {fine : α → World → Prop} {v : Value} {l : List α} (h : OwnN w B E k enc nv fine v l) (hb : B' ≤ B) : OwnN w B' E k enc nv fine v l :=
 ⟨h.1.mono hb, fun x hx => ⟨(h.2 x hx).1, fun b hb' => ⟨Nat.le_trans hb ((h.2 x hx).2 b hb').1, ((h.2 x hx).2 b hb').2⟩⟩⟩
theorem readBytes_len (l : List UInt8) (m : Int) : (readBytes l m).1.length ≤ l.length := by
 unfold readBytes
 split
 ·simp
 ·split
  ·simp
  ·split
   ·simp
   ·have := readNum_rest l m.toNat
    simp only [List.length_take]
    omega

end Go.Proofs.Ytiednihagnehlaa

namespace Go.Proofs.Ytiednihagnehlaa
open Go.RowKit Go.Great

attribute [-go_sem] loadVar
/-- a struct within a block is read at once -/
theorem load_sub {W : World} {b o : Nat} {cs : Array Value} {ty : TypeId} {d : TypeDesc} (h : ∀ j v, cs.toList[j]? = some v → W.cell? ⟨b, o + j, none⟩ = some v)
  (hu : Try.prog.underlying ty = some d) (hd : (match d with | .struct _ | .array _ _ => true | _ => false) = true) (hi : (Try.prog.info? ty).map (·.size) = some cs.size) : (loadVar ty ⟨b, o, none⟩).run Try.prog W = .ok (.agg cs) W := by
 have hl : (loadCells ⟨b, o, none⟩ cs.toList.length).run Try.prog W = .ok cs.toList.toArray W :=
  run_loadCells_list (P := Try.prog) W ⟨b, o, none⟩ cs.toList (fun j v hv => by
   rw [Addr.add_lit]; exact h j v hv)
 cases hq : Try.prog.info? ty with
 | none => simp [hq] at hi
 | some i =>
  have hs : i.size = cs.size := by simpa [hq] using hi
  have hagg : (isAgg ty).run Try.prog W = .ok true W := by
   unfold isAgg
   rw [Sem.run_bind, run_underlying hu W]
   cases d <;> simp_all
  simp only [Array.length_toList, Array.toArray_toList] at hl
  simp [loadVar, Sem.run_bind, hagg, sizeOf, typeInfo, hq, hs, hl]
theorem run_load_one {W : World} {ty : TypeId} {a : Addr} {v : Value} (ha : ∀ W, (loadVar ty a).run Try.prog W = (load a).run Try.prog W) (hc : W.cell? a = some v) {ρ : Operand → Value} {o : Oper} {x : Operand} (ho : o.op = .load ty x) (hx : ρ x = .pointer (some a)) : (execOp ρ o).run Try.prog W = .ok (.value v) W := by
 unfold execOp
 rw [ho]
 have hl : (load a).run Try.prog W = .ok v W := by
  show Sem.run Try.prog (.load .plain a .pure) W = _
  unfold Sem.run
  simp only [hc]
  rfl
 simp only [hx, Instr.loadAt, Instr.sureAddr, Sem.run_bind, Sem.run_pure, Result.andThen_ok, ha, hl]

end Go.Proofs.Ytiednihagnehlaa

namespace Go.Proofs.Ytiednihagnehlaa
open Go.RowKit Go.Great

set_option maxRecDepth 100000 in
set_option maxHeartbeats 2000000 in
theorem parts_own (k : Int) (w : World) : Calls Try.prog 32 #[.int .i64 k] w fun e w' => ∃ p n c, e = .returned (.slice p n c) ∧ SeesR w' 1 intL (.slice p n c) (partsL k) ∧ Old w w' ∧ ∀ b, (Value.slice p n c).ownBlock = some b → w.heap.size ≤ b := by
 go_enter Try.func32, Try.ntmps32
 go_upto_region 1 with fail
 refine wp_region_lit ?_
 obtain ⟨m, hmm⟩ : ∃ m, w.heap.size = m := ⟨_, rfl⟩
 refine wpList_runTo rfl (some 3) rfl (.map (some w.heap.size)) (w.alloc (.map #[] 0)) (by kernel_rfl) ?_
 obtain ⟨I0, hI0⟩ : ∃ W, w.alloc (.map #[] 0) = W := ⟨_, rfl⟩
 have b0 : I0.heap[w.heap.size]? = some (.map #[] 0) := by rw [← hI0]; exact heap_alloc_new _ _
 have o0 : Old w I0 := by rw [← hI0]; exact (Keeps.refl _ _).alloc _
 rw [hI0]
 clear hI0
 have z0 : w.heap.size < I0.heap.size := (Array.getElem?_eq_some_iff.1 b0).1
 refine wpList_runTo rfl (some 4) rfl (.slice (some ⟨I0.heap.size, 0, none⟩) 4 4) (I0.alloc (.cells #[.int .i64 0, .int .i64 1, .int .i64 2, .int .i64 3] 3)) (by kernel_rfl) ?_
 obtain ⟨A1, hA1⟩ : ∃ W, I0.alloc (.cells #[.int .i64 0, .int .i64 1, .int .i64 2, .int .i64 3] 3) = W := ⟨_, rfl⟩
 have oA1 : Old I0 A1 := by rw [← hA1]; exact (Keeps.refl _ _).alloc _
 have s1 : SeesR A1 1 intL (.slice (some ⟨I0.heap.size, 0, none⟩) 4 4) [0, 1, 2, 3] := by rw [← hA1]; exact SeesR.new (k := 1) (enc := intL) I0 _ (0, 0) [0, 1, 2, 3] _ (by rfl) (fun _ => rfl) (by unfold maxLen; simp)
 rw [hA1]
 clear hA1
 have c1 := (oA1.block _ z0 (fun f => f)).trans b0
 obtain ⟨I1, r1, b1, kk1⟩ := map_put (P := Try.prog) (k := .int .i64 1) Try.underlying106 Try.underlying3 rfl c1 (.slice (some ⟨I0.heap.size, 0, none⟩) 4 4) (by rfl)
 refine wpList_skipTo rfl I1 (run_insert_op (x := .tmp 3) (y := .const (.int .i64 1)) (z := .tmp 4) r1 rfl (by kernel_rfl) (by kernel_rfl) (by kernel_rfl)) ?_
 have z1 : w.heap.size < I1.heap.size := (Array.getElem?_eq_some_iff.1 b1).1
 have o1 : Old w I1 := (o0.trans oA1).then kk1 (fun i hi e => by omega)
 have h1 := s1.keeps kk1 (fun b hb e => by simp [Value.ownBlock] at hb; omega)
 have y1 := oA1.size
 clear c1 r1 s1
 refine wpList_runTo rfl (some 5) rfl (.slice (some ⟨I1.heap.size, 0, none⟩) 1 1) (I1.alloc (.cells #[.int .i64 3] 3)) (by kernel_rfl) ?_
 obtain ⟨A2, hA2⟩ : ∃ W, I1.alloc (.cells #[.int .i64 3] 3) = W := ⟨_, rfl⟩
 have oA2 : Old I1 A2 := by rw [← hA2]; exact (Keeps.refl _ _).alloc _
 have s2 : SeesR A2 1 intL (.slice (some ⟨I1.heap.size, 0, none⟩) 1 1) [3] := by rw [← hA2]; exact SeesR.new (k := 1) (enc := intL) I1 _ (0, 0) [3] _ (by rfl) (fun _ => rfl) (by unfold maxLen; simp)
 rw [hA2]
 clear hA2
 have c2 := (oA2.block _ z1 (fun f => f)).trans b1
 obtain ⟨I2, r2, b2, kk2⟩ := map_put (P := Try.prog) (k := .int .i64 2) Try.underlying106 Try.underlying3 rfl c2 (.slice (some ⟨I1.heap.size, 0, none⟩) 1 1) (by rfl)
 refine wpList_skipTo rfl I2 (run_insert_op (x := .tmp 3) (y := .const (.int .i64 2)) (z := .tmp 5) r2 rfl (by kernel_rfl) (by kernel_rfl) (by kernel_rfl)) ?_
 have z2 : w.heap.size < I2.heap.size := (Array.getElem?_eq_some_iff.1 b2).1
 have o2 : Old w I2 := (o1.trans oA2).then kk2 (fun i hi e => by omega)
 have h2 := s2.keeps kk2 (fun b hb e => by simp [Value.ownBlock] at hb; omega)
 have y2 := oA2.size
 have h1 := (h1.old oA2).keeps kk2 (fun b hb e => by simp [Value.ownBlock] at hb; omega)
 clear c2 r2 s2
 refine wpList_runTo rfl (some 6) rfl (.slice (some ⟨I2.heap.size, 0, none⟩) 1 1) (I2.alloc (.cells #[.int .i64 3] 3)) (by kernel_rfl) ?_
 obtain ⟨A3, hA3⟩ : ∃ W, I2.alloc (.cells #[.int .i64 3] 3) = W := ⟨_, rfl⟩
 have oA3 : Old I2 A3 := by rw [← hA3]; exact (Keeps.refl _ _).alloc _
 have s3 : SeesR A3 1 intL (.slice (some ⟨I2.heap.size, 0, none⟩) 1 1) [3] := by rw [← hA3]; exact SeesR.new (k := 1) (enc := intL) I2 _ (0, 0) [3] _ (by rfl) (fun _ => rfl) (by unfold maxLen; simp)
 rw [hA3]
 clear hA3
 have c3 := (oA3.block _ z2 (fun f => f)).trans b2
 obtain ⟨I3, r3, b3, kk3⟩ := map_put (P := Try.prog) (k := .int .i64 3) Try.underlying106 Try.underlying3 rfl c3 (.slice (some ⟨I2.heap.size, 0, none⟩) 1 1) (by rfl)
 refine wpList_skipTo rfl I3 (run_insert_op (x := .tmp 3) (y := .const (.int .i64 3)) (z := .tmp 6) r3 rfl (by kernel_rfl) (by kernel_rfl) (by kernel_rfl)) ?_
 have z3 : w.heap.size < I3.heap.size := (Array.getElem?_eq_some_iff.1 b3).1
 have o3 : Old w I3 := (o2.trans oA3).then kk3 (fun i hi e => by omega)
 have h3 := s3.keeps kk3 (fun b hb e => by simp [Value.ownBlock] at hb; omega)
 have y3 := oA3.size
 have h1 := (h1.old oA3).keeps kk3 (fun b hb e => by simp [Value.ownBlock] at hb; omega)
 have h2 := (h2.old oA3).keeps kk3 (fun b hb e => by simp [Value.ownBlock] at hb; omega)
 clear c3 r3 s3
 refine wpList_runTo rfl (some 7) rfl (.slice (some ⟨I3.heap.size, 0, none⟩) 2 2) (I3.alloc (.cells #[.int .i64 0, .int .i64 4] 3)) (by kernel_rfl) ?_
 obtain ⟨A4, hA4⟩ : ∃ W, I3.alloc (.cells #[.int .i64 0, .int .i64 4] 3) = W := ⟨_, rfl⟩
 have oA4 : Old I3 A4 := by rw [← hA4]; exact (Keeps.refl _ _).alloc _
 have s4 : SeesR A4 1 intL (.slice (some ⟨I3.heap.size, 0, none⟩) 2 2) [0, 4] := by rw [← hA4]; exact SeesR.new (k := 1) (enc := intL) I3 _ (0, 0) [0, 4] _ (by rfl) (fun _ => rfl) (by unfold maxLen; simp)
 rw [hA4]
 clear hA4
 have c4 := (oA4.block _ z3 (fun f => f)).trans b3
 obtain ⟨I4, r4, b4, kk4⟩ := map_put (P := Try.prog) (k := .int .i64 4) Try.underlying106 Try.underlying3 rfl c4 (.slice (some ⟨I3.heap.size, 0, none⟩) 2 2) (by rfl)
 refine wpList_skipTo rfl I4 (run_insert_op (x := .tmp 3) (y := .const (.int .i64 4)) (z := .tmp 7) r4 rfl (by kernel_rfl) (by kernel_rfl) (by kernel_rfl)) ?_
 have z4 : w.heap.size < I4.heap.size := (Array.getElem?_eq_some_iff.1 b4).1
 have o4 : Old w I4 := (o3.trans oA4).then kk4 (fun i hi e => by omega)
 have h4 := s4.keeps kk4 (fun b hb e => by simp [Value.ownBlock] at hb; omega)
 have y4 := oA4.size
 have h1 := (h1.old oA4).keeps kk4 (fun b hb e => by simp [Value.ownBlock] at hb; omega)
 have h2 := (h2.old oA4).keeps kk4 (fun b hb e => by simp [Value.ownBlock] at hb; omega)
 have h3 := (h3.old oA4).keeps kk4 (fun b hb e => by simp [Value.ownBlock] at hb; omega)
 clear c4 r4 s4
 refine wpList_runTo rfl (some 8) rfl (.slice (some ⟨I4.heap.size, 0, none⟩) 4 4) (I4.alloc (.cells #[.int .i64 5, .int .i64 0, .int .i64 3, .int .i64 6] 3)) (by kernel_rfl) ?_
 obtain ⟨A5, hA5⟩ : ∃ W, I4.alloc (.cells #[.int .i64 5, .int .i64 0, .int .i64 3, .int .i64 6] 3) = W := ⟨_, rfl⟩
 have oA5 : Old I4 A5 := by rw [← hA5]; exact (Keeps.refl _ _).alloc _
 have s5 : SeesR A5 1 intL (.slice (some ⟨I4.heap.size, 0, none⟩) 4 4) [5, 0, 3, 6] := by rw [← hA5]; exact SeesR.new (k := 1) (enc := intL) I4 _ (0, 0) [5, 0, 3, 6] _ (by rfl) (fun _ => rfl) (by unfold maxLen; simp)
 rw [hA5]
 clear hA5
 have c5 := (oA5.block _ z4 (fun f => f)).trans b4
 obtain ⟨I5, r5, b5, kk5⟩ := map_put (P := Try.prog) (k := .int .i64 5) Try.underlying106 Try.underlying3 rfl c5 (.slice (some ⟨I4.heap.size, 0, none⟩) 4 4) (by rfl)
 refine wpList_skipTo rfl I5 (run_insert_op (x := .tmp 3) (y := .const (.int .i64 5)) (z := .tmp 8) r5 rfl (by kernel_rfl) (by kernel_rfl) (by kernel_rfl)) ?_
 have z5 : w.heap.size < I5.heap.size := (Array.getElem?_eq_some_iff.1 b5).1
 have o5 : Old w I5 := (o4.trans oA5).then kk5 (fun i hi e => by omega)
 have h5 := s5.keeps kk5 (fun b hb e => by simp [Value.ownBlock] at hb; omega)
 have y5 := oA5.size
 have h1 := (h1.old oA5).keeps kk5 (fun b hb e => by simp [Value.ownBlock] at hb; omega)
 have h2 := (h2.old oA5).keeps kk5 (fun b hb e => by simp [Value.ownBlock] at hb; omega)
 have h3 := (h3.old oA5).keeps kk5 (fun b hb e => by simp [Value.ownBlock] at hb; omega)
 have h4 := (h4.old oA5).keeps kk5 (fun b hb e => by simp [Value.ownBlock] at hb; omega)
 clear c5 r5 s5
 refine wpList_runTo rfl (some 9) rfl (.slice (some ⟨I5.heap.size, 0, none⟩) 3 3) (I5.alloc (.cells #[.int .i64 5, .int .i64 0, .int .i64 7] 3)) (by kernel_rfl) ?_
 obtain ⟨A6, hA6⟩ : ∃ W, I5.alloc (.cells #[.int .i64 5, .int .i64 0, .int .i64 7] 3) = W := ⟨_, rfl⟩
 have oA6 : Old I5 A6 := by rw [← hA6]; exact (Keeps.refl _ _).alloc _
 have s6 : SeesR A6 1 intL (.slice (some ⟨I5.heap.size, 0, none⟩) 3 3) [5, 0, 7] := by rw [← hA6]; exact SeesR.new (k := 1) (enc := intL) I5 _ (0, 0) [5, 0, 7] _ (by rfl) (fun _ => rfl) (by unfold maxLen; simp)
 rw [hA6]
 clear hA6
 have c6 := (oA6.block _ z5 (fun f => f)).trans b5
 obtain ⟨I6, r6, b6, kk6⟩ := map_put (P := Try.prog) (k := .int .i64 6) Try.underlying106 Try.underlying3 rfl c6 (.slice (some ⟨I5.heap.size, 0, none⟩) 3 3) (by rfl)
 refine wpList_skipTo rfl I6 (run_insert_op (x := .tmp 3) (y := .const (.int .i64 6)) (z := .tmp 9) r6 rfl (by kernel_rfl) (by kernel_rfl) (by kernel_rfl)) ?_
 have z6 : w.heap.size < I6.heap.size := (Array.getElem?_eq_some_iff.1 b6).1
 have o6 : Old w I6 := (o5.trans oA6).then kk6 (fun i hi e => by omega)
 have h6 := s6.keeps kk6 (fun b hb e => by simp [Value.ownBlock] at hb; omega)
 have y6 := oA6.size
 have h1 := (h1.old oA6).keeps kk6 (fun b hb e => by simp [Value.ownBlock] at hb; omega)
 have h2 := (h2.old oA6).keeps kk6 (fun b hb e => by simp [Value.ownBlock] at hb; omega)
 have h3 := (h3.old oA6).keeps kk6 (fun b hb e => by simp [Value.ownBlock] at hb; omega)
 have h4 := (h4.old oA6).keeps kk6 (fun b hb e => by simp [Value.ownBlock] at hb; omega)
 have h5 := (h5.old oA6).keeps kk6 (fun b hb e => by simp [Value.ownBlock] at hb; omega)
 clear c6 r6 s6
 obtain ⟨r, V, hr, hV, sV, nV⟩ : ∃ r V, Instr.findNow (.int .i64) (.int .i64 k) ((((((((#[] : Array MapEntry).push ⟨.int .i64 1, .slice (some ⟨I0.heap.size, 0, none⟩) 4 4, 0⟩).push ⟨.int .i64 2, .slice (some ⟨I1.heap.size, 0, none⟩) 1 1, 1⟩).push ⟨.int .i64 3, .slice (some ⟨I2.heap.size, 0, none⟩) 1 1, 2⟩).push ⟨.int .i64 4, .slice (some ⟨I3.heap.size, 0, none⟩) 2 2, 3⟩).push ⟨.int .i64 5, .slice (some ⟨I4.heap.size, 0, none⟩) 4 4, 4⟩).push ⟨.int .i64 6, .slice (some ⟨I5.heap.size, 0, none⟩) 3 3, 5⟩)).toList 0 = some r ∧ r.elim (.slice none 0 0) (·.2) = V ∧ SeesR I6 1 intL V (partsL k) ∧ ∀ b, V.ownBlock = some b → w.heap.size ≤ b := by
  by_cases e1 : k = 1
  ·exact ⟨_, _, by simp [Instr.findNow, Instr.sameNow, e1]; rfl, rfl, by rw [e1]; exact h1, fun b hb => (by simp [Value.ownBlock] at hb; omega)⟩
  by_cases e2 : k = 2
  ·exact ⟨_, _, by simp [Instr.findNow, Instr.sameNow, e2]; rfl, rfl, by rw [e2]; exact h2, fun b hb => (by simp [Value.ownBlock] at hb; omega)⟩
  by_cases e3 : k = 3
  ·exact ⟨_, _, by simp [Instr.findNow, Instr.sameNow, e3]; rfl, rfl, by rw [e3]; exact h3, fun b hb => (by simp [Value.ownBlock] at hb; omega)⟩
  by_cases e4 : k = 4
  ·exact ⟨_, _, by simp [Instr.findNow, Instr.sameNow, e4]; rfl, rfl, by rw [e4]; exact h4, fun b hb => (by simp [Value.ownBlock] at hb; omega)⟩
  by_cases e5 : k = 5
  ·exact ⟨_, _, by simp [Instr.findNow, Instr.sameNow, e5]; rfl, rfl, by rw [e5]; exact h5, fun b hb => (by simp [Value.ownBlock] at hb; omega)⟩
  by_cases e6 : k = 6
  ·exact ⟨_, _, by simp [Instr.findNow, Instr.sameNow, e6]; rfl, rfl, by rw [e6]; exact h6, fun b hb => (by simp [Value.ownBlock] at hb; omega)⟩
  have f1 : (k == 1) = false := by rw [beq_eq_false_iff_ne]; exact e1
  have f2 : (k == 2) = false := by rw [beq_eq_false_iff_ne]; exact e2
  have f3 : (k == 3) = false := by rw [beq_eq_false_iff_ne]; exact e3
  have f4 : (k == 4) = false := by rw [beq_eq_false_iff_ne]; exact e4
  have f5 : (k == 5) = false := by rw [beq_eq_false_iff_ne]; exact e5
  have f6 : (k == 6) = false := by rw [beq_eq_false_iff_ne]; exact e6
  exact ⟨none, .slice none 0 0, by simp [Instr.findNow, Instr.sameNow, f1, f2, f3, f4, f5, f6], rfl, by unfold partsL; rw [if_neg e1, if_neg e2, if_neg e3, if_neg e4, if_neg e5, if_neg e6]; exact SeesR.nil _, fun b hb => (by simp [Value.ownBlock] at hb)⟩
 refine wpList_runTo rfl (some 10) rfl (.map (some w.heap.size)) I6 (by kernel_rfl) ?_
 refine wpList_runTo rfl (some 11) rfl (.int .i64 k) I6 (by kernel_rfl) ?_
 have hg := map_get (P := Try.prog) (k := .int .i64 k) Try.underlying106 Try.underlying3 rfl b6 (z := .slice none 0 0) (by kernel_rfl) hr
 rw [hV] at hg
 refine wpList_runTo rfl (some 12) rfl V I6 (run_lookup_op (x := .tmp 10) (y := .tmp 11) hg rfl (by kernel_rfl) (by kernel_rfl)) ?_
 refine wpList_runTo rfl (some 2) rfl V I6 (by kernel_rfl) ?_
 refine wpList_nil ?_
 try simp only [Act.put, List.setIfInBounds_toArray, List.set_cons_zero, List.set_cons_succ]
 obtain ⟨pv, cv, rfl, _, _⟩ := sV.len
 have HS := Lib.hid (And.intro sV (And.intro o6 nV))
 clear h1 b1 kk1 oA1 o1 h2 b2 kk2 oA2 o2 h3 b3 kk3 oA3 o3 h4 b4 kk4 oA4 o4 h5 b5 kk5 oA5 o5 h6 b6 kk6 oA6 o6 hr hg sV nV b0 o0 hV
 go_wp2_with fail
 go_ret
 exact ⟨_, _, _, rfl, HS.out.1, HS.out.2.1, HS.out.2.2⟩
end Go.Proofs.Ytiednihagnehlaa
