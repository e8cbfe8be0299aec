/- DERIVED. Chapter 21: forms are short; with a byte more, or of a part of one, nothing is told. · DERIVED. Chapter 21: what the document reads of bytes as a message is what the program reads. Plain law. -/
import Derived.Test.YtpjpimahnnekkaaGreatYpMsgForms37
import Derived.Test.YtpjpimahnnekkaaGreatZMsgForms01
import Derived.Test.YtpjpimahnnekkaaGreatZMsgForms03
set_option maxRecDepth 100000
namespace Go.Proofs.YtpjpimahnnekkaaGreat
section
open Go.RowKit
end
section
open Go.RowKit
theorem pX_fwd {F : List UInt8} (r : List UInt8) (h : F.length ≤ 1099511627777) : pX (tform F ++ r) = some (F, r) := by
 unfold pX tform
 rw [List.append_assoc, pNum_fwd (F ++ r) h (by omega)]
 simp
theorem pX_inv {l F r : List UInt8} (h : pX l = some (F, r)) : l = tform F ++ r := by
 unfold pX at h
 cases hn : pNum 1099511627777 l with
 | none => rw [hn] at h; cases h
 | some x =>
  obtain ⟨n, l1⟩ := x
  rw [hn] at h
  simp only [Option.bind_some] at h
  split at h
  ·cases h
  ·rename_i hlt
   simp only [Option.some.injEq, Prod.mk.injEq] at h
   obtain ⟨rfl, rfl⟩ := h
   have h1 := (pNum_inv hn).1
   unfold tform
   rw [h1, List.length_take, Nat.min_eq_left (by omega), List.append_assoc, List.take_append_drop]
theorem pB_eq (l : List UInt8) : pB l = (pNum 1048576 l).bind fun x => if x.2.length < x.1 then none else some (x.2.take x.1, x.2.drop x.1) := by
 unfold pB pNum
 rw [show (1048576 : Int) = ((1048576 : Nat) : Int) from rfl, readBytes_nat]
 by_cases h : (readNum l 1048576).2.1 = 0
 ·by_cases h2 : (readNum l 1048576).2.2.length < (readNum l 1048576).1
  ·simp [h, h2]
  ·simp [h, h2]
 ·simp [h]
theorem pB_inv {l F r : List UInt8} (h : pB l = some (F, r)) : l = tform F ++ r ∧ F.length ≤ 1048576 := by
 rw [pB_eq] at h
 cases hn : pNum 1048576 l with
 | none => rw [hn] at h; cases h
 | some x =>
  obtain ⟨n, l1⟩ := x
  rw [hn] at h
  simp only [Option.bind_some] at h
  split at h
  ·cases h
  ·rename_i hlt
   simp only [Option.some.injEq, Prod.mk.injEq] at h
   obtain ⟨rfl, rfl⟩ := h
   have h1 := (pNum_inv hn)
   unfold tform
   rw [h1.1, List.length_take, Nat.min_eq_left (by omega), List.append_assoc, List.take_append_drop]
   exact ⟨rfl, h1.2.1⟩
theorem part_yes {α : Type} {take : List UInt8 → Option α} {l F r : List UInt8} {y : α} (hx : pX l = some (F, r)) (ht : take F = some y) (hF : F.length ≤ 1048576) : pPart take l = some (y, r) := by
 rw [pX_inv hx]
 exact pPart_fwd r hF ht
theorem part_no1 {α : Type} {take : List UInt8 → Option α} {l : List UInt8} (hx : pX l = none) : pPart take l = none := by
 unfold pPart
 cases hb : pB l with
 | none => rfl
 | some x =>
  obtain ⟨F, r⟩ := x
  obtain ⟨h1, h2⟩ := pB_inv hb
  rw [h1, pX_fwd r (by omega)] at hx
  cases hx
theorem part_no2 {α : Type} {take : List UInt8 → Option α} {l F r : List UInt8} (hx : pX l = some (F, r)) (ht : take F = none) : pPart take l = none := by
 unfold pPart
 cases hb : pB l with
 | none => rfl
 | some x =>
  obtain ⟨F', r'⟩ := x
  obtain ⟨h1, h2⟩ := pB_inv hb
  rw [h1, pX_fwd r' (by omega)] at hx
  simp only [Option.some.injEq, Prod.mk.injEq] at hx
  obtain ⟨rfl, rfl⟩ := hx
  simp [ht]
theorem doc_yes {b : List UInt8} {m : PMs} (hp : parseM b = some (m, [])) (hb : b = mForm m) (hm : mayM m = true) : takeM b = some m := by
 unfold takeM
 rw [hp]
 simp [hm, hb]
theorem doc_none {b : List UInt8} (hp : parseM b = none) : takeM b = none := by
 unfold takeM
 rw [hp]
 rfl
theorem doc_may {b r : List UInt8} {m : PMs} (hp : parseM b = some (m, r)) (hm : mayM m = false) : takeM b = none := by
 unfold takeM
 rw [hp]
 simp [hm]
theorem doc_rest {b r : List UInt8} {m : PMs} (hp : parseM b = some (m, r)) (hb : b = mForm m ++ r) (hr : r ≠ []) : takeM b = none := by
 unfold takeM
 rw [hp]
 have h : mForm m ≠ b := fun e => by
  rw [hb] at e
  have := congrArg List.length e
  simp at this
  exact hr this
 simp [h]
theorem parse0 {b l1 : List UInt8} {k : Nat} (h1 : pNum mMost b = some (k, l1)) (hk : ¬ (1 ≤ k ∧ k ≤ 6)) : takeM b = none := by
 have hp : parseM b = some ({ noMs with kind := (k : Int) }, l1) := by
  unfold parseM
  rw [h1]
  have hl : partsL (k : Int) = [] := by
   unfold partsL
   repeat (rw [if_neg (by omega)])
  simp [hl, partsM]
 refine doc_may hp ?_
 rw [mayM_eq]
 have hl : partsL (k : Int) = [] := by
  unfold partsL
  repeat (rw [if_neg (by omega)])
 simp [hl]
theorem parse2 {b l1 : List UInt8} (h1 : pNum mMost b = some (2, l1)) : parseM b = (pPart takeP l1).map fun x => ({ noMs with kind := 2, ps := x.1 }, x.2) := by
 unfold parseM
 rw [h1]
 cases h : pPart takeP l1 <;> simp [partsL, partsM, stepM, h]
theorem parse3 {b l1 : List UInt8} (h1 : pNum mMost b = some (3, l1)) : parseM b = (pPart takeP l1).map fun x => ({ noMs with kind := 3, ps := x.1 }, x.2) := by
 unfold parseM
 rw [h1]
 cases h : pPart takeP l1 <;> simp [partsL, partsM, stepM, h]
theorem parse4 {b l1 : List UInt8} (h1 : pNum mMost b = some (4, l1)) : parseM b = (pNum mMost l1).bind fun p => (pPart takeI p.2).map fun x => ({ noMs with kind := 4, pub := (p.1 : Int), it := x.1 }, x.2) := by
 unfold parseM
 rw [h1]
 cases hp : pNum mMost l1 with
 | none => simp [partsL, partsM, stepM, hp]
 | some p => cases h : pPart takeI p.2 <;> simp [partsL, partsM, stepM, hp, h]
theorem parse1 {b l1 : List UInt8} (h1 : pNum mMost b = some (1, l1)) : parseM b = (pNum mMost l1).bind fun p => (pNum mMost p.2).bind fun v => (pNum mMost v.2).bind fun f =>
  if (f.1 == 1) = false then some ({ noMs with kind := 1, pub := (p.1 : Int), ver := v.1 }, f.2) else (pPart takeP f.2).map fun x => ({ noMs with kind := 1, pub := (p.1 : Int), ver := v.1, there := true, ps := x.1 }, x.2) := by
 unfold parseM
 rw [h1]
 cases hp : pNum mMost l1 with
 | none => simp [partsL, partsM, stepM, hp]
 | some p =>
  cases hv : pNum mMost p.2 with
  | none => simp [partsL, partsM, stepM, hp, hv]
  | some v =>
   cases hf : pNum mMost v.2 with
   | none => simp [partsL, partsM, stepM, hp, hv, hf]
   | some f =>
    by_cases hc : f.1 = 1
    ·cases h : pPart takeP f.2 <;> simp [partsL, partsM, stepM, hp, hv, hf, hc, h]
    ·simp [partsL, partsM, stepM, hp, hv, hf, hc, noMs]
theorem parse5 {b l1 : List UInt8} (h1 : pNum mMost b = some (5, l1)) : parseM b = (pNum mMost l1).bind fun x => (pNum mMost x.2).bind fun y => (pNum mMost y.2).bind fun z => (pNum mMost z.2).bind fun p => (pPart takeP p.2).bind fun q => (pNum mMost q.2).map fun f =>
  ({ noMs with kind := 5, tb := (x.1 : Int), tl := y.1, tc := z.1, pub := (p.1 : Int), ps := q.1, frm := f.1 }, f.2) := by
 unfold parseM
 rw [h1]
 cases hx : pNum mMost l1 with
 | none => simp [partsL, partsM, stepM, hx]
 | some x =>
  cases hy : pNum mMost x.2 with
  | none => simp [partsL, partsM, stepM, hx, hy]
  | some y =>
   cases hz : pNum mMost y.2 with
   | none => simp [partsL, partsM, stepM, hx, hy, hz]
   | some z =>
    cases hp : pNum mMost z.2 with
    | none => simp [partsL, partsM, stepM, hx, hy, hz, hp]
    | some p =>
     cases hq : pPart takeP p.2 with
     | none => simp [partsL, partsM, stepM, hx, hy, hz, hp, hq]
     | some q => cases hf : pNum mMost q.2 <;> simp [partsL, partsM, stepM, hx, hy, hz, hp, hq, hf]
theorem parse6 {b l1 : List UInt8} (h1 : pNum mMost b = some (6, l1)) : parseM b = (pNum mMost l1).bind fun x => (pNum mMost x.2).bind fun y => (pNum mMost y.2).bind fun z => (pNum mMost z.2).bind fun p => (pPart takeG p.2).map fun q =>
  ({ noMs with kind := 6, tb := (x.1 : Int), tl := y.1, tc := z.1, pub := (p.1 : Int), pg := q.1 }, q.2) := by
 unfold parseM
 rw [h1]
 cases hx : pNum mMost l1 with
 | none => simp [partsL, partsM, stepM, hx]
 | some x =>
  cases hy : pNum mMost x.2 with
  | none => simp [partsL, partsM, stepM, hx, hy]
  | some y =>
   cases hz : pNum mMost y.2 with
   | none => simp [partsL, partsM, stepM, hx, hy, hz]
   | some z =>
    cases hp : pNum mMost z.2 with
    | none => simp [partsL, partsM, stepM, hx, hy, hz, hp]
    | some p => cases hq : pPart takeG p.2 <;> simp [partsL, partsM, stepM, hx, hy, hz, hp, hq]
end
section
open Go.RowKit
abbrev nxt (st : Option (List UInt8)) : Option (List UInt8) := (st.bind (pNum mMost)).map (·.2)
abbrev isN (st : Option (List UInt8)) (n : Nat) : Prop := ∀ k r, st.bind (pNum mMost) = some (k, r) → n = k
abbrev isX (st : Option (List UInt8)) (F : List UInt8) : Prop := ∀ F' r, st.bind pX = some (F', r) → F = F'
abbrev nxX (st : Option (List UInt8)) : Option (List UInt8) := (st.bind pX).map (·.2)
theorem nxt_some {st : Option (List UInt8)} {n : Nat} {r : List UInt8} (h : nxt st = some r) (hn : isN st n) : ∃ l, st = some l ∧ pNum mMost l = some (n, r) := by
 cases st with
 | none => cases h
 | some l =>
  refine ⟨l, rfl, ?_⟩
  simp only [nxt, Option.bind_some] at h
  cases hp : pNum mMost l with
  | none => rw [hp] at h; cases h
  | some x =>
   rw [hp] at h
   simp only [Option.map_some, Option.some.injEq] at h
   have := hn x.1 x.2 (by simp only [Option.bind_some]; rw [hp])
   rw [this, ← h]
theorem nxX_some {st : Option (List UInt8)} {F r : List UInt8} (h : nxX st = some r) (hn : isX st F) : ∃ l, st = some l ∧ pX l = some (F, r) := by
 cases st with
 | none => cases h
 | some l =>
  refine ⟨l, rfl, ?_⟩
  simp only [nxX, Option.bind_some] at h
  cases hp : pX l with
  | none => rw [hp] at h; cases h
  | some x =>
   rw [hp] at h
   simp only [Option.map_some, Option.some.injEq] at h
   have := hn x.1 x.2 (by simp only [Option.bind_some]; rw [hp])
   rw [this, ← h]
def Law (b : List UInt8) (st : Option (List UInt8)) (m : PMs) (z : Int) : Prop :=
 (st = none → takeM b = none) ∧ ∀ r, st = some r → (z ≠ 0 → takeM b = none) ∧ (z = 0 → (r ≠ [] → takeM b = none) ∧ (r = [] → takeM b = if mayM m then some m else none))
theorem Law.mk' {b : List UInt8} {st : Option (List UInt8)} {m : PMs} {z : Int} (h0 : st = none → parseM b = none) (h1 : ∀ r, st = some r → (z ≠ 0 → parseM b = none) ∧ (z = 0 → parseM b = some (m, r) ∧ b = mForm m ++ r)) : Law b st m z := by
 refine ⟨fun h => doc_none (h0 h), fun r hr => ⟨fun hz => doc_none ((h1 r hr).1 hz), fun hz => ?_⟩⟩
 obtain ⟨hp, hb⟩ := (h1 r hr).2 hz
 refine ⟨fun hne => doc_rest hp hb hne, fun he => ?_⟩
 subst he
 rw [List.append_nil] at hb
 cases hm : mayM m
 ·rw [doc_may hp hm]; rfl
 ·rw [doc_yes hp hb hm]; rfl
abbrev TakP (F : List UInt8) (ps : List PCon) (z : Int) : Prop := (takeP F = some ps ∧ z = 0 ∧ F.length ≤ 1048576) ∨ (takeP F = none ∧ z = 5)
theorem law23 {b l1 F : List UInt8} {ps : List PCon} {z : Int} {K : Nat} (hK : K = 2 ∨ K = 3) (h1 : pNum mMost b = some (K, l1)) (hF : isX (some l1) F) (hz : TakP F ps z) :
  Law b (nxX (some l1)) { noMs with kind := (K : Int), ps := ps } z := by
 have hp : parseM b = (pPart takeP l1).map fun x => ({ noMs with kind := (K : Int), ps := x.1 }, x.2) := by
  rcases hK with rfl | rfl
  ·exact parse2 h1
  ·exact parse3 h1
 have hb1 := (pNum_inv h1).1
 refine Law.mk' (fun h => ?_) (fun r hr => ?_)
 ·have hx : pX l1 = none := by
   simp only [nxX, Option.bind_some] at h
   cases hp : pX l1 with
   | none => rfl
   | some x => rw [hp] at h; cases h
  rw [hp, part_no1 hx]; rfl
 ·obtain ⟨l, hl, hx⟩ := nxX_some hr hF
  cases hl
  rcases hz with ⟨ht, rfl, hlen⟩ | ⟨ht, rfl⟩
  ·refine ⟨fun h => absurd rfl h, fun _ => ⟨by rw [hp, part_yes hx ht hlen]; rfl, ?_⟩⟩
   have hf := (takeP_law ht).2.1
   rcases hK with rfl | rfl
   ·rw [mForm2 (by rfl), hb1, pX_inv hx, hf]; simp
   ·rw [mForm3 (by rfl), hb1, pX_inv hx, hf]; simp
  ·exact ⟨fun _ => by rw [hp, part_no2 hx ht]; rfl, fun h => by cases h⟩
theorem law4 {b l1 F : List UInt8} {x : PIt} {z : Int} {n : Nat} {pz : Int} (h1 : pNum mMost b = some (4, l1)) (hn : isN (some l1) n) (hpz : n ≤ mMost → pz = n) (hF : isX (nxt (some l1)) F)
  (hz : (takeI F = some x ∧ z = 0 ∧ F.length ≤ 1048576) ∨ (takeI F = none ∧ z = 5)) :
  Law b (nxX (nxt (some l1))) { noMs with kind := 4, pub := pz, it := x } z := by
 have hp := parse4 h1
 have hb1 := (pNum_inv h1).1
 refine Law.mk' (fun h => ?_) (fun r hr => ?_)
 ·rw [hp]
  cases hq : pNum mMost l1 with
  | none => rfl
  | some q =>
   simp only [nxX, nxt, Option.bind_some, hq, Option.map_some] at h
   simp only [Option.bind_some]
   have hx : pX q.2 = none := by
    cases hp : pX q.2 with
    | none => rfl
    | some y => rw [hp] at h; cases h
   rw [part_no1 hx]; rfl
 ·obtain ⟨l2, hl2, hx⟩ := nxX_some hr hF
  obtain ⟨l, hl, hq⟩ := nxt_some hl2 hn
  cases hl
  have hi := pNum_inv hq
  have hpe := hpz hi.2.1
  subst hpe
  rcases hz with ⟨ht, rfl, hlen⟩ | ⟨ht, rfl⟩
  ·refine ⟨fun h => absurd rfl h, fun _ => ⟨by rw [hp, hq]; simp only [Option.bind_some]; rw [part_yes hx ht hlen]; rfl, ?_⟩⟩
   have hf := (takeI_law ht).2.1
   rw [mForm4 (by rfl), hb1, hi.1, pX_inv hx, hf]; simp
  ·exact ⟨fun _ => by rw [hp, hq]; simp only [Option.bind_some]; rw [part_no2 hx ht]; rfl, fun h => by cases h⟩
theorem law6 {b l1 F : List UInt8} {g : PPg} {z : Int} {a l c n : Nat} {az pz : Int} (h1 : pNum mMost b = some (6, l1)) (ha : isN (some l1) a) (haz : a ≤ mMost → az = a) (hl : isN (nxt (some l1)) l) (hc : isN (nxt (nxt (some l1))) c)
  (hn : isN (nxt (nxt (nxt (some l1)))) n) (hpz : n ≤ mMost → pz = n) (hF : isX (nxt (nxt (nxt (nxt (some l1))))) F) (hz : (takeG F = some g ∧ z = 0 ∧ F.length ≤ 1048576) ∨ (takeG F = none ∧ z = 5)) :
  Law b (nxX (nxt (nxt (nxt (nxt (some l1)))))) { noMs with kind := 6, tb := az, tl := l, tc := c, pub := pz, pg := g } z := by
 have hp := parse6 h1
 have hb1 := (pNum_inv h1).1
 refine Law.mk' (fun h => ?_) (fun r hr => ?_)
 ·rw [hp]
  cases hx : pNum mMost l1 with
  | none => rfl
  | some x =>
   cases hy : pNum mMost x.2 with
   | none => simp only [Option.bind_some, hy, Option.bind_none]
   | some y =>
    cases hw : pNum mMost y.2 with
    | none => simp only [Option.bind_some, hy, hw, Option.bind_none]
    | some w =>
     cases hq : pNum mMost w.2 with
     | none => simp only [Option.bind_some, hy, hw, hq, Option.bind_none]
     | some q =>
      simp only [nxX, nxt, Option.bind_some, hx, hy, hw, hq, Option.map_some] at h
      have hn : pX q.2 = none := by
       cases hp : pX q.2 with
       | none => rfl
       | some y => rw [hp] at h; cases h
      simp only [Option.bind_some, hy, hw, hq]
      rw [part_no1 hn]; rfl
 ·obtain ⟨l5, e5, hx⟩ := nxX_some hr hF
  obtain ⟨l4, e4, h4⟩ := nxt_some e5 hn
  obtain ⟨l3, e3, h3⟩ := nxt_some e4 hc
  obtain ⟨l2, e2, h2⟩ := nxt_some e3 hl
  obtain ⟨l0, e0, h0⟩ := nxt_some e2 ha
  cases e0
  have i0 := pNum_inv h0
  have i2 := pNum_inv h2
  have i3 := pNum_inv h3
  have i4 := pNum_inv h4
  have hae := haz i0.2.1
  have hpe := hpz i4.2.1
  subst hae hpe
  rcases hz with ⟨ht, rfl, hlen⟩ | ⟨ht, rfl⟩
  ·refine ⟨fun h => absurd rfl h, fun _ => ⟨by rw [hp, h0]; simp only [Option.bind_some, h2, h3, h4]; rw [part_yes hx ht hlen]; rfl, ?_⟩⟩
   have hf := (takeG_law ht).2.1
   rw [mForm6 (by rfl), hb1, i0.1, i2.1, i3.1, i4.1, pX_inv hx, hf]; simp
  ·exact ⟨fun _ => by rw [hp, h0]; simp only [Option.bind_some, h2, h3, h4]; rw [part_no2 hx ht]; rfl, fun h => by cases h⟩
theorem law5 {b l1 F : List UInt8} {ps : List PCon} {z : Int} {a l c n f : Nat} {az pz : Int} (h1 : pNum mMost b = some (5, l1)) (ha : isN (some l1) a) (haz : a ≤ mMost → az = a) (hl : isN (nxt (some l1)) l) (hc : isN (nxt (nxt (some l1))) c)
  (hn : isN (nxt (nxt (nxt (some l1)))) n) (hpz : n ≤ mMost → pz = n) (hF : isX (nxt (nxt (nxt (nxt (some l1))))) F) (hz : TakP F ps z) (hf : isN (nxX (nxt (nxt (nxt (nxt (some l1)))))) f) :
  Law b (nxt (nxX (nxt (nxt (nxt (nxt (some l1))))))) { noMs with kind := 5, tb := az, tl := l, tc := c, pub := pz, ps := ps, frm := f } z := by
 have hp := parse5 h1
 have hb1 := (pNum_inv h1).1
 refine Law.mk' (fun h => ?_) (fun r hr => ?_)
 ·rw [hp]
  cases hx : pNum mMost l1 with
  | none => rfl
  | some x =>
   cases hy : pNum mMost x.2 with
   | none => simp only [Option.bind_some, hy, Option.bind_none]
   | some y =>
    cases hw : pNum mMost y.2 with
    | none => simp only [Option.bind_some, hy, hw, Option.bind_none]
    | some w =>
     cases hq : pNum mMost w.2 with
     | none => simp only [Option.bind_some, hy, hw, hq, Option.bind_none]
     | some q =>
      cases hg : pX q.2 with
      | none =>
       simp only [Option.bind_some, hy, hw, hq]
       rw [part_no1 hg]; rfl
      | some g =>
       simp only [nxX, nxt, Option.bind_some, hx, hy, hw, hq, hg, Option.map_some] at h
       have hgF : F = g.1 := hF g.1 g.2 (by simp only [nxt, Option.bind_some, hx, hy, hw, hq, Option.map_some]; exact hg)
       have hg' : pX q.2 = some (F, g.2) := by rw [hg, hgF]
       simp only [Option.bind_some, hy, hw, hq]
       rcases hz with ⟨ht, rfl, hlen⟩ | ⟨ht, rfl⟩
       ·rw [part_yes hg' ht hlen]
        simp only [Option.bind_some]
        cases hv : pNum mMost g.2 with
        | none => rfl
        | some v => rw [hv] at h; cases h
       ·rw [part_no2 hg' ht]; rfl
 ·obtain ⟨l6, e6, h6⟩ := nxt_some hr hf
  obtain ⟨l5, e5, hx⟩ := nxX_some e6 hF
  obtain ⟨l4, e4, h4⟩ := nxt_some e5 hn
  obtain ⟨l3, e3, h3⟩ := nxt_some e4 hc
  obtain ⟨l2, e2, h2⟩ := nxt_some e3 hl
  obtain ⟨l0, e0, h0⟩ := nxt_some e2 ha
  cases e0
  have i0 := pNum_inv h0
  have i2 := pNum_inv h2
  have i3 := pNum_inv h3
  have i4 := pNum_inv h4
  have i6 := pNum_inv h6
  have hae := haz i0.2.1
  have hpe := hpz i4.2.1
  subst hae hpe
  rcases hz with ⟨ht, rfl, hlen⟩ | ⟨ht, rfl⟩
  ·refine ⟨fun h => absurd rfl h, fun _ => ⟨by rw [hp, h0]; simp only [Option.bind_some, h2, h3, h4]; rw [part_yes hx ht hlen]; simp only [Option.bind_some, h6]; rfl, ?_⟩⟩
   have hff := (takeP_law ht).2.1
   rw [mForm5 (by rfl), hb1, i0.1, i2.1, i3.1, i4.1, pX_inv hx, hff, i6.1]; simp
  ·exact ⟨fun _ => by rw [hp, h0]; simp only [Option.bind_some, h2, h3, h4]; rw [part_no2 hx ht]; rfl, fun h => by cases h⟩
theorem law1f {b l1 : List UInt8} {n v f : Nat} {pz : Int} (h1 : pNum mMost b = some (1, l1)) (hn : isN (some l1) n) (hpz : n ≤ mMost → pz = n) (hv : isN (nxt (some l1)) v) (hf : isN (nxt (nxt (some l1))) f) (h0 : f = 0) :
  Law b (nxt (nxt (nxt (some l1)))) { noMs with kind := 1, pub := pz, ver := v } 0 := by
 have hp := parse1 h1
 have hb1 := (pNum_inv h1).1
 refine Law.mk' (fun h => ?_) (fun r hr => ?_)
 ·rw [hp]
  cases hx : pNum mMost l1 with
  | none => rfl
  | some x =>
   cases hy : pNum mMost x.2 with
   | none => simp only [Option.bind_some, hy, Option.bind_none]
   | some y =>
    cases hw : pNum mMost y.2 with
    | none => simp only [Option.bind_some, hy, hw, Option.bind_none]
    | some w => simp only [nxt, Option.bind_some, hx, hy, hw, Option.map_some] at h; cases h
 ·obtain ⟨l3, e3, h3⟩ := nxt_some hr hf
  obtain ⟨l2, e2, h2⟩ := nxt_some e3 hv
  obtain ⟨l0, e0, h0'⟩ := nxt_some e2 hn
  cases e0
  have i0 := pNum_inv h0'
  have i2 := pNum_inv h2
  have i3 := pNum_inv h3
  have hpe := hpz i0.2.1
  subst hpe h0
  refine ⟨fun h => absurd rfl h, fun _ => ⟨by rw [hp, h0']; simp only [Option.bind_some, h2, h3]; rfl, ?_⟩⟩
  rw [mForm1 (by rfl), hb1, i0.1, i2.1, i3.1]; simp [noMs]
theorem law1t {b l1 F : List UInt8} {ps : List PCon} {z : Int} {n v f : Nat} {pz : Int} (h1 : pNum mMost b = some (1, l1)) (hn : isN (some l1) n) (hpz : n ≤ mMost → pz = n) (hv : isN (nxt (some l1)) v) (hf : isN (nxt (nxt (some l1))) f) (hf1 : f = 1)
  (hF : isX (nxt (nxt (nxt (some l1)))) F) (hz : TakP F ps z) : Law b (nxX (nxt (nxt (nxt (some l1))))) { noMs with kind := 1, pub := pz, ver := v, there := true, ps := ps } z := by
 have hp := parse1 h1
 have hb1 := (pNum_inv h1).1
 refine Law.mk' (fun h => ?_) (fun r hr => ?_)
 ·rw [hp]
  cases hx : pNum mMost l1 with
  | none => rfl
  | some x =>
   cases hy : pNum mMost x.2 with
   | none => simp only [Option.bind_some, hy, Option.bind_none]
   | some y =>
    cases hw : pNum mMost y.2 with
    | none => simp only [Option.bind_some, hy, hw, Option.bind_none]
    | some w =>
     have hwf : f = w.1 := hf w.1 w.2 (by simp only [nxt, Option.bind_some, hx, hy, Option.map_some]; exact hw)
     simp only [nxX, nxt, Option.bind_some, hx, hy, hw, Option.map_some] at h
     have hg : pX w.2 = none := by
      cases hp : pX w.2 with
      | none => rfl
      | some y => rw [hp] at h; cases h
     simp only [Option.bind_some, hy, hw]
     rw [if_neg (by rw [← hwf, hf1]; decide), part_no1 hg]; rfl
 ·obtain ⟨l4, e4, hx⟩ := nxX_some hr hF
  obtain ⟨l3, e3, h3⟩ := nxt_some e4 hf
  obtain ⟨l2, e2, h2⟩ := nxt_some e3 hv
  obtain ⟨l0, e0, h0⟩ := nxt_some e2 hn
  cases e0
  have i0 := pNum_inv h0
  have i2 := pNum_inv h2
  have i3 := pNum_inv h3
  have hpe := hpz i0.2.1
  subst hpe hf1
  rcases hz with ⟨ht, rfl, hlen⟩ | ⟨ht, rfl⟩
  ·refine ⟨fun h => absurd rfl h, fun _ => ⟨by rw [hp, h0]; simp only [Option.bind_some, h2, h3]; rw [if_neg (by decide), part_yes hx ht hlen]; rfl, ?_⟩⟩
   have hff := (takeP_law ht).2.1
   rw [mForm1 (by rfl), hb1, i0.1, i2.1, i3.1, pX_inv hx, hff]; simp
  ·exact ⟨fun _ => by rw [hp, h0]; simp only [Option.bind_some, h2, h3]; rw [if_neg (by decide), part_no2 hx ht]; rfl, fun h => by cases h⟩
theorem law1x {b l1 : List UInt8} {n v f : Nat} (h1 : pNum mMost b = some (1, l1)) (hn : isN (some l1) n) (hv : isN (nxt (some l1)) v) (hf : isN (nxt (nxt (some l1))) f) (hf1 : 1 < f) : takeM b = none := by
 have hp := parse1 h1
 have hb1 := (pNum_inv h1).1
 cases h : nxt (nxt (nxt (some l1))) with
 | none =>
  refine doc_none ?_
  rw [hp]
  cases hx : pNum mMost l1 with
  | none => rfl
  | some x =>
   cases hy : pNum mMost x.2 with
   | none => simp only [Option.bind_some, hy, Option.bind_none]
   | some y =>
    cases hw : pNum mMost y.2 with
    | none => simp only [Option.bind_some, hy, hw, Option.bind_none]
    | some w => simp only [nxt, Option.bind_some, hx, hy, hw, Option.map_some] at h; cases h
 | some r =>
  obtain ⟨l3, e3, h3⟩ := nxt_some h hf
  obtain ⟨l2, e2, h2⟩ := nxt_some e3 hv
  obtain ⟨l0, e0, h0⟩ := nxt_some e2 hn
  cases e0
  have i0 := pNum_inv h0
  have i2 := pNum_inv h2
  have i3 := pNum_inv h3
  have hP : parseM b = some ({ noMs with kind := 1, pub := (n : Int), ver := v }, r) := by
   rw [hp, h0]
   simp only [Option.bind_some, h2, h3]
   rw [if_pos (by rw [beq_eq_false_iff_ne]; omega)]
  unfold takeM
  rw [hP]
  have hne : mForm { noMs with kind := 1, pub := (n : Int), ver := v } ≠ b := by
   intro e
   rw [mForm1 (by rfl), hb1, i0.1, i2.1, i3.1] at e
   simp only [noMs, Int.toNat_natCast, if_true, Bool.false_eq_true, if_false, List.append_nil, List.append_assoc, List.append_cancel_left_eq] at e
   have a1 := pNum_fwd (most := mMost) (n := 0) [] (by decide) (by decide)
   rw [List.append_nil, e, pNum_fwd r i3.2.1 i3.2.2] at a1
   simp only [Option.some.injEq, Prod.mk.injEq] at a1
   omega
  simp [hne]
end
end Go.Proofs.YtpjpimahnnekkaaGreat
