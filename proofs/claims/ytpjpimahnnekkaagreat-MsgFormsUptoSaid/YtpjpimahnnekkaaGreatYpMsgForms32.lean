/- DERIVED. Chapter 21: the form of a message; msg.Put. · DERIVED. Chapter 21: msg.reader: num, read. -/
import Derived.Test.YtpjpimahnnekkaaGreatYpMsgForms31
set_option maxRecDepth 100000
set_option maxHeartbeats 1000000
namespace Go.Proofs.YtpjpimahnnekkaaGreat
section
open Go.RowKit Go.Great
def partForm (m : PMs) (p : Int) : List UInt8 :=
 if p = 0 then form m.pub.toNat else if p = 1 then form m.ver else if p = 2 then form (if m.there then 1 else 0) else if p = 3 then (if m.kind = 1 ∧ m.there = false then [] else tform (predForm m.ps)) else if p = 4 then tform (itForm m.it)
 else if p = 5 then form m.tb.toNat ++ form m.tl ++ form m.tc else if p = 6 then form m.frm else tform (pageForm m.pg)
def mForm (m : PMs) : List UInt8 := form m.kind.toNat ++ (partsL m.kind).flatMap (partForm m)
theorem parts_mem {k p : Int} (h : p ∈ partsL k) : (1 ≤ k ∧ k ≤ 6) ∧ (0 ≤ p ∧ p ≤ 7) := by
 unfold partsL at h
 by_cases h1 : k = 1
 ·subst h1; simp at h; omega
 by_cases h2 : k = 2
 ·subst h2; simp at h; omega
 by_cases h3 : k = 3
 ·subst h3; simp at h; omega
 by_cases h4 : k = 4
 ·subst h4; simp at h; omega
 by_cases h5 : k = 5
 ·subst h5; simp at h; omega
 by_cases h6 : k = 6
 ·subst h6; simp at h; omega
 simp [h1, h2, h3, h4, h5, h6] at h
theorem parts_len (k : Int) : (partsL k).length ≤ 4 := by unfold partsL; split <;> (try split) <;> (try split) <;> (try split) <;> (try split) <;> (try split) <;> simp
theorem mayM_parts {m : PMs} (h : mayM m = true) : (1 ≤ m.kind ∧ m.kind ≤ 6) ∧ ∀ p ∈ partsL m.kind, rightM m p = true := by
 unfold mayM at h
 rw [Bool.and_eq_true, List.all_eq_true, decide_eq_true_eq] at h
 obtain ⟨h1, h2⟩ := h
 refine ⟨?_, fun p hp => ?_⟩
 ·obtain ⟨p, hp⟩ := List.exists_mem_of_length_pos h2
  exact (parts_mem hp).1
 ·obtain ⟨n, rfl⟩ : ∃ n : Nat, p = n := ⟨p.toNat, by have := (parts_mem hp).2; omega⟩
  have := h1 n (by have := (parts_mem hp).2; simp; omega)
  unfold partOk at this
  rwa [if_pos hp] at this
theorem tform_le (F : List UInt8) (h : F.length < 18446744073709551616) : (tform F).length ≤ 10 + F.length := by
 unfold tform
 have := form_le10 h
 simp only [List.length_append]
 omega
theorem predForm_le {w : World} {v : Value} {cs : List Con} (h : Cons w v cs) (hok : okP (cs.map Con.plain) = true) : (predForm (cs.map Con.plain)).length ≤ 3100 := by
 obtain ⟨h6, hall⟩ := okP_parts hok
 simp only [List.length_map] at h6
 have h3 := cons_le (l := cs) (fun x hx => by rw [conOk_plain]; exact hall _ (List.mem_map_of_mem hx)) (fun x hx => (h.2 x hx).ranges)
 have h4 : (form (cs.map Con.plain).length).length ≤ 10 := form_le10 (by simp; omega)
 unfold predForm
 simp only [List.length_append]
 omega
theorem pageForm_le {w : World} {x : Pg} (hf : x.fine w) (hok : pgOk x.plain = true) : (pageForm x.plain).length ≤ 4000 := by
 obtain ⟨fr, en, iv, its, gv, gs, last⟩ := x
 obtain ⟨⟨hi, hif, hg⟩, hgr, ⟨hfr, hen⟩, _⟩ := hf
 unfold pgOk topOk Pg.plain at hok
 simp only [List.length_map, Bool.and_eq_true, decide_eq_true_eq] at hok
 obtain ⟨⟨ha, hb', hc, h4, h16⟩, hio, hgo⟩ := hok
 have hits := itsOk_mem en _ _ hio
 have h1 := its_le (l := its) (fun y hy => hits _ (List.mem_map_of_mem hy)) (fun y hy => (hif y hy).2.2.1)
 have h2 := gaps_le hgr
 have fa : (form fr).length ≤ 10 := form_le10 hfr
 have fb : (form en).length ≤ 10 := form_le10 hen
 have fc : (form its.length).length ≤ 10 := form_le10 (by omega)
 have fd : (form gs.length).length ≤ 10 := form_le10 (by omega)
 have fe : (form (if last = true then 1 else 0)).length ≤ 10 := form_le10 (by split <;> decide)
 unfold pageForm Pg.plain
 simp only [List.length_append, List.length_map]
 simp only at h2
 omega
theorem right0' {m : PMs} (h : rightM m 0 = true) : 0 ≤ m.pub ∧ m.pub < 256 := by
 unfold rightM homeZ at h
 simp only [if_true, decide_eq_true_eq] at h
 split at h <;> omega
theorem right3' {m : PMs} (h : rightM m 3 = true) (hc : ¬ (m.kind = 1 ∧ m.there = false)) : okP m.ps = true := by
 unfold rightM at h
 simp only [show ¬ ((3 : Int) = 0) by decide, show ¬ ((3 : Int) = 1) by decide, if_false, if_true] at h
 cases ho : okP m.ps with
 | true => rfl
 | false =>
  rw [ho] at h
  simp at h
  exact absurd ⟨h.1, h.2.1⟩ hc
theorem right4' {m : PMs} (h : rightM m 4 = true) : itOk m.it = true := by
 unfold rightM at h
 simp only [show ¬ ((4 : Int) = 0) by decide, show ¬ ((4 : Int) = 1) by decide, show ¬ ((4 : Int) = 3) by decide, if_false, if_true] at h
 exact h
theorem right5' {m : PMs} (h : rightM m 5 = true) : (0 ≤ m.tb ∧ m.tb < 64) ∧ (numOk m.tl = true ∧ numOk m.tc = true) := by
 unfold rightM at h
 simp only [show ¬ ((5 : Int) = 0) by decide, show ¬ ((5 : Int) = 1) by decide, show ¬ ((5 : Int) = 3) by decide, show ¬ ((5 : Int) = 4) by decide, if_false, if_true, Bool.and_eq_true, decide_eq_true_eq] at h
 exact ⟨⟨h.1, h.2.1⟩, h.2.2⟩
theorem right7' {m : PMs} (h : rightM m 7 = true) : pgOk m.pg = true := by
 unfold rightM at h
 simp only [show ¬ ((7 : Int) = 0) by decide, show ¬ ((7 : Int) = 1) by decide, show ¬ ((7 : Int) = 3) by decide, show ¬ ((7 : Int) = 4) by decide, show ¬ ((7 : Int) = 5) by decide, show ¬ ((7 : Int) = 6) by decide, if_false, if_true] at h
 exact h
theorem part_le {m : Ms} {w : World} (h : m.fine w) {p : Int} (hp : 0 ≤ p ∧ p ≤ 7) (hr : rightM m.plain p = true) : (partForm m.plain p).length ≤ 5000 := by
 have f1 : ∀ n, n < 18446744073709551616 → (form n).length ≤ 10 := fun n h => form_le10 h
 obtain ⟨h1, h2, h3, h4, h5⟩ := h
 unfold U64 at h5
 obtain rfl | rfl | rfl | rfl | rfl | rfl | rfl | rfl : p = 0 ∨ p = 1 ∨ p = 2 ∨ p = 3 ∨ p = 4 ∨ p = 5 ∨ p = 6 ∨ p = 7 := by omega
 ·have := right0' hr
  have := f1 m.plain.pub.toNat (by omega)
  unfold partForm
  simp only [if_true]
  omega
 ·have := f1 m.plain.ver h5.1
  unfold partForm
  simp only [show ¬ ((1 : Int) = 0) by decide, if_false, if_true]
  omega
 ·have := f1 (if m.plain.there then 1 else 0) (by split <;> decide)
  unfold partForm
  simp only [show ¬ ((2 : Int) = 0) by decide, show ¬ ((2 : Int) = 1) by decide, if_false, if_true]
  omega
 ·unfold partForm
  simp only [show ¬ ((3 : Int) = 0) by decide, show ¬ ((3 : Int) = 1) by decide, show ¬ ((3 : Int) = 2) by decide, if_false, if_true]
  split
  ·simp
  ·have ho := right3' hr (by assumption)
   have hl := predForm_le h1.1 ho
   have := tform_le (predForm m.plain.ps) (by have : m.plain.ps = m.ps.map Con.plain := rfl; rw [this]; omega)
   have e : m.plain.ps = m.ps.map Con.plain := rfl
   rw [e] at this ⊢
   omega
 ·have ho := right4' hr
  have hl := itForm_le (x := m.it.plain) ho h2.2.2.1
  have := tform_le (itForm m.it.plain) (by omega)
  unfold partForm
  simp only [show ¬ ((4 : Int) = 0) by decide, show ¬ ((4 : Int) = 1) by decide, show ¬ ((4 : Int) = 2) by decide, show ¬ ((4 : Int) = 3) by decide, if_false, if_true]
  show (tform (itForm m.it.plain)).length ≤ 5000
  omega
 ·have ho := right5' hr
  have a := f1 m.plain.tb.toNat (by omega)
  have b := f1 m.plain.tl h5.2.1
  have c := f1 m.plain.tc h5.2.2.1
  unfold partForm
  simp only [show ¬ ((5 : Int) = 0) by decide, show ¬ ((5 : Int) = 1) by decide, show ¬ ((5 : Int) = 2) by decide, show ¬ ((5 : Int) = 3) by decide, show ¬ ((5 : Int) = 4) by decide, if_false, if_true, List.length_append]
  omega
 ·have := f1 m.plain.frm h5.2.2.2
  unfold partForm
  simp only [show ¬ ((6 : Int) = 0) by decide, show ¬ ((6 : Int) = 1) by decide, show ¬ ((6 : Int) = 2) by decide, show ¬ ((6 : Int) = 3) by decide, show ¬ ((6 : Int) = 4) by decide, show ¬ ((6 : Int) = 5) by decide, if_false, if_true]
  omega
 ·have ho := right7' hr
  have hl := pageForm_le h3 ho
  have := tform_le (pageForm m.pg.plain) (by omega)
  unfold partForm
  simp only [show ¬ ((7 : Int) = 0) by decide, show ¬ ((7 : Int) = 1) by decide, show ¬ ((7 : Int) = 2) by decide, show ¬ ((7 : Int) = 3) by decide, show ¬ ((7 : Int) = 4) by decide, show ¬ ((7 : Int) = 5) by decide, show ¬ ((7 : Int) = 6) by decide, if_false]
  show (tform (pageForm m.pg.plain)).length ≤ 5000
  omega
theorem flat_le {m : Ms} {w : World} (h : m.fine w) : ∀ (l : List Int), (∀ p ∈ l, (0 ≤ p ∧ p ≤ 7) ∧ rightM m.plain p = true) → (l.flatMap (partForm m.plain)).length ≤ 5000 * l.length
 | [], _ => by simp
 | p :: r, hh => by
  have h1 := part_le h (hh p (by simp)).1 (hh p (by simp)).2
  have h2 := flat_le h r (fun q hq => hh q (by simp [hq]))
  simp only [List.flatMap_cons, List.length_append, List.length_cons]
  omega
end
section
open Go.RowKit
def RQ (w : World) (B qb rb bb : Nat) (st : Option (List UInt8)) : Prop :=
 (B ≤ qb ∧ rb < qb) ∧ match st with
 | some l => w.heap[qb]? = some (.cells #[.pointer (some ⟨rb, 0, none⟩), .int .i64 0] 92 (0, 0)) ∧ Rd w B rb bb l
 | none => ∃ e : Int, e ≠ 0 ∧ w.heap[qb]? = some (.cells #[.pointer (some ⟨rb, 0, none⟩), .int .i64 e] 92 (0, 0))
theorem RQ.lt {w : World} {B qb rb bb : Nat} {st : Option (List UInt8)} (h : RQ w B qb rb bb st) : qb < w.heap.size := by
 cases st with
 | none => obtain ⟨_, e, _, h⟩ := h; exact lt_of_heap h
 | some l => exact lt_of_heap h.2.1
theorem RQ.far {w w' : World} {B qb rb bb : Nat} {st : Option (List UInt8)} {S : Nat → Prop} (h : RQ w B qb rb bb st) (hk : Keeps S w w') (hS : ∀ k, S k → B ≤ k ∧ k ≠ rb ∧ k ≠ qb) : RQ w' B qb rb bb st := by
 cases st with
 | none =>
  obtain ⟨h0, e, h1, h2⟩ := h
  exact ⟨h0, e, h1, (hk.block _ (lt_of_heap h2) (fun s => (hS _ s).2.2 rfl)).trans h2⟩
 | some l =>
  obtain ⟨h0, h1, h2⟩ := h
  exact ⟨h0, (hk.block _ (lt_of_heap h1) (fun s => (hS _ s).2.2 rfl)).trans h1, h2.far hk (fun k s => ⟨(hS k s).1, (hS k s).2.1⟩)⟩
theorem RQ.old {w w' : World} {B qb rb bb : Nat} {st : Option (List UInt8)} (h : RQ w B qb rb bb st) (hk : Old w w') : RQ w' B qb rb bb st := h.far hk (fun _ f => f.elim)
abbrev mMost : Nat := 1099511627777
abbrev QK (qb rb : Nat) (w w' : World) : Prop := Keeps (fun k => k = qb ∨ k = rb) w w'
theorem mnum_any (B qb rb bb : Nat) (st : Option (List UInt8)) (w : World) (h : RQ w B qb rb bb st) :
  Calls Tryz.prog 39 #[.pointer (some ⟨qb, 0, none⟩)] w fun e w' => e = .returned (.int .u64 ((st.bind (pNum mMost)).elim 0 (·.1) : Nat)) ∧ RQ w' B qb rb bb ((st.bind (pNum mMost)).map (·.2)) ∧ QK qb rb w w' := by
 cases st with
 | none =>
  have H := Lib.hid h
  obtain ⟨⟨h1, h2⟩, e, he, hb⟩ := h
  have g := blk2 hb
  have t : (e != 0) = true := by rw [bne_iff_ne]; exact he
  clear hb he h1 h2
  go_enter Tryz.func39, Tryz.ntmps39
  go_wp2_with fail
  go_ret
  exact ⟨rfl, H.out, Keeps.refl _ _⟩
 | some l =>
  obtain ⟨⟨h1, h2⟩, hb, hr⟩ := h
  have g := blk2 hb
  have C0 := rnum_any B rb bb l mMost w hr (by decide)
  obtain ⟨rn, hrn⟩ : ∃ x, readNum l mMost = x := ⟨_, rfl⟩
  have hpn : pNum mMost l = if rn.2.1 = 0 then some (rn.1, rn.2.2) else none := by unfold pNum; rw [hrn]
  have hbad : rn.2.1 ≠ 0 → rn.1 = 0 := fun hne => by rw [← hrn] at hne ⊢; exact (readNum_bad hne).1
  unfold NumPost at C0
  rw [hrn] at C0
  obtain ⟨n, z, r⟩ := rn
  simp only at C0 hpn hbad
  have C := Lib.hid C0
  have H := Lib.hid (And.intro hb (And.intro hpn hbad))
  clear C0 hrn hpn hbad hr
  go_enter Tryz.func39, Tryz.ntmps39
  go_wp2_with fail
  refine C.out.mono ?_
  rintro e w1 ⟨rfl, hr1, k1⟩
  have b1 := (k1.block _ (lt_of_heap H.out.1) (fun e => by omega)).trans H.out.1
  have g1 := blk2 b1
  have kS : Keeps (fun k => k = qb) w1 (w1.setCell ⟨qb, 1, none⟩ (.int .i64 z)) := keepS _ (Keeps.refl _ _)
  have b2 : (w1.setCell ⟨qb, 1, none⟩ (.int .i64 z)).heap[qb]? = some (.cells #[.pointer (some ⟨rb, 0, none⟩), .int .i64 z] 92 (0, 0)) := by
   have := heap_setCell_same w1 qb 1 _ _ (.int .i64 z) b1
   simpa using this
  have R := Lib.hid (And.intro b2 (And.intro (hr1.far kS (fun k hk => ⟨by omega, by omega⟩)) ((k1.weaken (fun i _ e => Or.inr e) : QK qb rb w w1).then kS (fun i hi e => Or.inl e))))
  clear hr1 k1 b1 kS b2 g C
  go_wp2_with fail
  go_ret
  simp only [Option.bind_some]
  rw [H.out.2.1]
  by_cases hz : z = 0
  ·subst hz
   exact ⟨rfl, ⟨⟨h1, h2⟩, R.out.1, R.out.2.1⟩, R.out.2.2⟩
  ·rw [if_neg hz]
   refine ⟨?_, ⟨⟨h1, h2⟩, (z : Int), by omega, R.out.1⟩, R.out.2.2⟩
   rw [H.out.2.2 hz]
   rfl
end
end Go.Proofs.YtpjpimahnnekkaaGreat
