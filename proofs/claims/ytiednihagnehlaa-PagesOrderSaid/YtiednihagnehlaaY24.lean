/- DERIVED. Chapter 21: msg.Take. · DERIVED. Chapter 21: a message's form, read again (plain). · DERIVED. Chapter 21: the chapter's rows. · DERIVED. Chapter 25: a query of a broker; the chapter's rows. · DERIVED. Chapter 25: the chapter's rows. (gen_qi.py wrote it) · DERIVED. How arguments read: bytes; and what the bound on their bulk gives. -/
import Derived.Test.YtiednihagnehlaaY19
import Derived.Test.YtiednihagnehlaaY18
import Derived.Test.YtiednihagnehlaaY14
import Derived.Test.YtiednihagnehlaaY23
import Derived.Test.YtiednihagnehlaaRows
import Derived.Test.YtiednihagnehlaaY01
import Derived.ProofKit
import Derived.OpenShut
namespace Go.Proofs.Ytiednihagnehlaa
open Go.RowKit Go.Great

attribute [-go_sem] loadVar storeVar

end Go.Proofs.Ytiednihagnehlaa

namespace Go.Proofs.Ytiednihagnehlaa
open Go.RowKit

/-- a message as a message of the program may be: its numbers lie in their ranges -/
def GM (m : PMs) : Prop := ∃ (w : World) (x : Ms), x.fine w ∧ x.plain = m
theorem pB_fwd {F : List UInt8} (r : List UInt8) (h : F.length ≤ 1048576) : pB (tform F ++ r) = some (F, r) := by
 have h1 := pText_fwd (most := 1048576) (s := ⟨F.toArray⟩) r (by rw [arr_size]; exact h) (by decide)
 rw [arr_size, arr_toList] at h1
 unfold pText at h1
 unfold pB tform
 have hc : ((1048576 : Nat) : Int) = 1048576 := rfl
 rw [hc] at h1
 split at h1
 ·rename_i h0
  rw [if_pos h0]
  simp only [Option.some.injEq, Prod.mk.injEq] at h1 ⊢
  refine ⟨?_, h1.2⟩
  have h2 := congrArg ByteArray.toList h1.1
  rwa [arr_toList, arr_toList] at h2
 ·cases h1
theorem pPart_fwd {α : Type} {take : List UInt8 → Option α} {F : List UInt8} {x : α} (r : List UInt8) (h : F.length ≤ 1048576) (ht : take F = some x) : pPart take (tform F ++ r) = some (x, r) := by
 unfold pPart
 rw [pB_fwd r h]
 simp only [Option.bind_some, ht, Option.map_some]
theorem mayM_ok {m : PMs} (h : mayM m = true) (p : Nat) (hp : p < 8) : partOk m (p : Int) = true := by
 unfold mayM at h
 rw [Bool.and_eq_true, List.all_eq_true] at h
 exact h.1 p (by simpa using hp)
/-- one part of m is put into m0 -/
def putP (m m0 : PMs) (p : Int) : PMs :=
 if p = 0 then { m0 with pub := m.pub } else if p = 1 then { m0 with ver := m.ver } else if p = 2 then { m0 with there := m.there } else if p = 3 then { m0 with ps := m.ps } else if p = 4 then { m0 with it := m.it }
 else if p = 5 then { m0 with tb := m.tb, tl := m.tl, tc := m.tc } else if p = 6 then { m0 with frm := m.frm } else { m0 with pg := m.pg }
theorem tform_ge (F : List UInt8) : F.length ≤ (tform F).length := by unfold tform; simp
theorem right6' {m : PMs} (h : rightM m 6 = true) : m.frm ≤ 1099511627777 := by
 unfold rightM at h
 simp only [show ¬ ((6 : Int) = 0) by decide, show ¬ ((6 : Int) = 1) by decide, show ¬ ((6 : Int) = 3) by decide, show ¬ ((6 : Int) = 4) by decide, show ¬ ((6 : Int) = 5) by decide, if_false, if_true, Bool.and_eq_true, decide_eq_true_eq] at h
 exact h.2
theorem right1' {m : PMs} (h : rightM m 1 = true) : m.ver ≤ 1099511627776 := by
 unfold rightM numOk at h
 simp only [show ¬ ((1 : Int) = 0) by decide, if_false, if_true, Bool.and_eq_true, decide_eq_true_eq] at h
 exact h.2
theorem right3e {m : PMs} (h : rightM m 3 = true) (hc : m.kind = 1 ∧ m.there = false) : m.ps = [] := by
 unfold rightM at h
 simp only [show ¬ ((3 : Int) = 0) by decide, show ¬ ((3 : Int) = 1) by decide, if_false, if_true] at h
 simp [hc.1, hc.2] at h
 exact h
theorem step_fwd {m m0 : PMs} {p : Int} (hp : 0 ≤ p ∧ p ≤ 7) (hr : rightM m p = true) (hg : GM m) (hk : m0.kind = m.kind) (h3 : p = 3 → m0.there = m.there ∧ m0.ps = []) (r : List UInt8) : stepM p m0 (partForm m p ++ r) = some (putP m m0 p, r) := by
 obtain ⟨w, x, hf, hx⟩ := hg
 have hle := part_le hf hp (by rw [hx]; exact hr)
 rw [hx] at hle
 obtain rfl | rfl | rfl | rfl | rfl | rfl | rfl | rfl : p = 0 ∨ p = 1 ∨ p = 2 ∨ p = 3 ∨ p = 4 ∨ p = 5 ∨ p = 6 ∨ p = 7 := by omega
 ·have h := right0' hr
  have e : ((m.pub.toNat : Nat) : Int) = m.pub := by omega
  simp only [stepM, partForm, putP, if_true]
  rw [pNum_fwd r (by show _ ≤ 1099511627777; omega) (by omega)]
  simp only [Option.map_some, e]
 ·have h := right1' hr
  simp only [stepM, partForm, putP, show ¬ ((1 : Int) = 0) by decide, if_false, if_true]
  rw [pNum_fwd r (by show _ ≤ 1099511627777; omega) (by omega)]
  rfl
 ·simp only [stepM, partForm, putP, show ¬ ((2 : Int) = 0) by decide, show ¬ ((2 : Int) = 1) by decide, if_false, if_true]
  rw [pNum_fwd r (by show _ ≤ 1099511627777; split <;> omega) (by split <;> omega)]
  cases m.there <;> rfl
 ·simp only [stepM, partForm, putP, show ¬ ((3 : Int) = 0) by decide, show ¬ ((3 : Int) = 1) by decide, show ¬ ((3 : Int) = 2) by decide, if_false, if_true] at hle ⊢
  by_cases hc : m.kind = 1 ∧ m.there = false
  ·rw [if_pos (by rw [hk, (h3 rfl).1]; exact hc), if_pos hc, right3e hr hc]
   have := (h3 rfl).2
   obtain ⟨a1, a2, a3, a4, a5, a6, a7, a8, a9, a10, a11⟩ := m0
   simp only at this
   subst this
   rfl
  ·rw [if_neg hc] at hle
   rw [if_neg (by rw [hk, (h3 rfl).1]; exact hc), if_neg hc]
   have ho := right3' hr hc
   have hcg : ∀ c ∈ m.ps, ConG c := by
    have e : m.ps = x.ps.map Con.plain := by rw [← hx]; rfl
    rw [e] at ho ⊢
    exact consG hf.1.1 ho
   have := tform_ge (predForm m.ps)
   rw [pPart_fwd r (by omega) (takeP_form ho hcg)]
   rfl
 ·have ho := right4' hr
  simp only [stepM, partForm, putP, show ¬ ((4 : Int) = 0) by decide, show ¬ ((4 : Int) = 1) by decide, show ¬ ((4 : Int) = 2) by decide, show ¬ ((4 : Int) = 3) by decide, if_false, if_true] at hle ⊢
  have := tform_ge (itForm m.it)
  have hfe : Fits m.it.es := by rw [← hx]; exact hf.2.1.2.2.1
  rw [pPart_fwd r (by omega) (takeI_form ho hfe)]
  rfl
 ·have h := right5' hr
  have h2 := h.2
  unfold numOk at h2
  simp only [Bool.and_eq_true, decide_eq_true_eq] at h2
  have e : ((m.tb.toNat : Nat) : Int) = m.tb := by omega
  simp only [stepM, partForm, putP, show ¬ ((5 : Int) = 0) by decide, show ¬ ((5 : Int) = 1) by decide, show ¬ ((5 : Int) = 2) by decide, show ¬ ((5 : Int) = 3) by decide, show ¬ ((5 : Int) = 4) by decide, if_false, if_true, List.append_assoc]
  rw [pNum_fwd _ (by show _ ≤ 1099511627777; omega) (by omega)]
  simp only [Option.bind_some]
  rw [pNum_fwd _ (by show _ ≤ 1099511627777; omega) (by omega)]
  simp only [Option.bind_some]
  rw [pNum_fwd _ (by show _ ≤ 1099511627777; omega) (by omega)]
  simp only [Option.map_some, e]
 ·have h := right6' hr
  simp only [stepM, partForm, putP, show ¬ ((6 : Int) = 0) by decide, show ¬ ((6 : Int) = 1) by decide, show ¬ ((6 : Int) = 2) by decide, show ¬ ((6 : Int) = 3) by decide, show ¬ ((6 : Int) = 4) by decide, show ¬ ((6 : Int) = 5) by decide, if_false, if_true]
  rw [pNum_fwd r (by show _ ≤ 1099511627777; omega) (by omega)]
  rfl
 ·have ho := right7' hr
  simp only [stepM, partForm, putP, show ¬ ((7 : Int) = 0) by decide, show ¬ ((7 : Int) = 1) by decide, show ¬ ((7 : Int) = 2) by decide, show ¬ ((7 : Int) = 3) by decide, show ¬ ((7 : Int) = 4) by decide, show ¬ ((7 : Int) = 5) by decide, show ¬ ((7 : Int) = 6) by decide, if_false] at hle ⊢
  have := tform_ge (pageForm m.pg)
  have hfe : ∀ y ∈ m.pg.items, Fits y.es := by
   rw [← hx]
   intro y hy
   obtain ⟨z, hz, rfl⟩ := List.mem_map.1 hy
   exact (hf.2.2.1.1.2.1 z hz).2.2.1
  rw [pPart_fwd r (by omega) (takeG_form ho hfe)]
  rfl
/-- the parts are read again -/
theorem parts_fwd {m : PMs} (hg : GM m) : ∀ (L : List Int) (m0 : PMs) (r : List UInt8), (∀ p ∈ L, (0 ≤ p ∧ p ≤ 7) ∧ rightM m p = true) → m0.kind = m.kind → (∀ l1 l2, L = l1 ++ 3 :: l2 → (l1.foldl (putP m) m0).there = m.there ∧ (l1.foldl (putP m) m0).ps = []) →
  partsM L m0 (L.flatMap (partForm m) ++ r) = some (L.foldl (putP m) m0, r)
 | [], m0, r, _, _, _ => rfl
 | p :: L, m0, r, h, hk, h3 => by
  unfold partsM
  rw [List.flatMap_cons, List.append_assoc, step_fwd (h p (by simp)).1 (h p (by simp)).2 hg hk (fun e => h3 [] L (by rw [e]; rfl))]
  simp only [Option.bind_some, List.foldl_cons]
  refine parts_fwd hg L _ r (fun q hq => h q (by simp [hq])) ?_ (fun l1 l2 e => h3 (p :: l1) l2 (by rw [e]; rfl))
  unfold putP
  (repeat' split) <;> exact hk
theorem bare_eqs {m : PMs} : (bareM m 0 = true → m.pub = 0) ∧ (bareM m 1 = true → m.ver = 0) ∧ (bareM m 2 = true → m.there = false) ∧ (bareM m 3 = true → m.ps = []) ∧ (bareM m 4 = true → m.it = noItem) ∧ (bareM m 5 = true → m.tb = 0 ∧ m.tl = 0 ∧ m.tc = 0) ∧ (bareM m 6 = true → m.frm = 0) ∧ (bareM m 7 = true → m.pg = noPage) := by
 simp only [bareM, if_true, show ¬ ((1 : Int) = 0) by decide, show ¬ ((2 : Int) = 0) by decide, show ¬ ((2 : Int) = 1) by decide, show ¬ ((3 : Int) = 0) by decide, show ¬ ((3 : Int) = 1) by decide, show ¬ ((3 : Int) = 2) by decide, show ¬ ((4 : Int) = 0) by decide, show ¬ ((4 : Int) = 1) by decide, show ¬ ((4 : Int) = 2) by decide, show ¬ ((4 : Int) = 3) by decide,
  show ¬ ((5 : Int) = 0) by decide, show ¬ ((5 : Int) = 1) by decide, show ¬ ((5 : Int) = 2) by decide, show ¬ ((5 : Int) = 3) by decide, show ¬ ((5 : Int) = 4) by decide, show ¬ ((6 : Int) = 0) by decide, show ¬ ((6 : Int) = 1) by decide, show ¬ ((6 : Int) = 2) by decide, show ¬ ((6 : Int) = 3) by decide, show ¬ ((6 : Int) = 4) by decide, show ¬ ((6 : Int) = 5) by decide,
  show ¬ ((7 : Int) = 0) by decide, show ¬ ((7 : Int) = 1) by decide, show ¬ ((7 : Int) = 2) by decide, show ¬ ((7 : Int) = 3) by decide, show ¬ ((7 : Int) = 4) by decide, show ¬ ((7 : Int) = 5) by decide, show ¬ ((7 : Int) = 6) by decide, if_false, beq_iff_eq, Bool.and_eq_true, List.isEmpty_iff, sameI_iff, sameG_iff, Bool.not_eq_true', imp_self, and_self]
/-- what may be is what its parts say -/
theorem mayM_fold {m : PMs} (h : mayM m = true) : (partsL m.kind).foldl (putP m) { noMs with kind := m.kind } = m := by
 have h8 := fun p hp => mayM_ok h p hp
 have hk := (mayM_parts h).1
 obtain ⟨b0, b1, b2, b3, b4, b5, b6, b7⟩ := @bare_eqs m
 obtain ⟨kind, pub, ver, there, ps, it, tb, tl, tc, frm, pg⟩ := m
 simp only at hk b0 b1 b2 b3 b4 b5 b6 b7
 have q := fun p hp (hn : ((p : Nat) : Int) ∉ partsL kind) => (by have := h8 p hp; unfold partOk at this; rwa [if_neg hn] at this)
 clear h8 h
 obtain rfl | rfl | rfl | rfl | rfl | rfl : kind = 1 ∨ kind = 2 ∨ kind = 3 ∨ kind = 4 ∨ kind = 5 ∨ kind = 6 := by omega
 ·have := b4 (q 4 (by decide) (by decide)); have := b5 (q 5 (by decide) (by decide)); have := b6 (q 6 (by decide) (by decide)); have := b7 (q 7 (by decide) (by decide))
  simp_all [partsL, putP, noMs]
 ·have := b0 (q 0 (by decide) (by decide)); have := b1 (q 1 (by decide) (by decide)); have := b2 (q 2 (by decide) (by decide)); have := b4 (q 4 (by decide) (by decide)); have := b5 (q 5 (by decide) (by decide)); have := b6 (q 6 (by decide) (by decide)); have := b7 (q 7 (by decide) (by decide))
  simp_all [partsL, putP, noMs]
 ·have := b0 (q 0 (by decide) (by decide)); have := b1 (q 1 (by decide) (by decide)); have := b2 (q 2 (by decide) (by decide)); have := b4 (q 4 (by decide) (by decide)); have := b5 (q 5 (by decide) (by decide)); have := b6 (q 6 (by decide) (by decide)); have := b7 (q 7 (by decide) (by decide))
  simp_all [partsL, putP, noMs]
 ·have := b1 (q 1 (by decide) (by decide)); have := b2 (q 2 (by decide) (by decide)); have := b3 (q 3 (by decide) (by decide)); have := b5 (q 5 (by decide) (by decide)); have := b6 (q 6 (by decide) (by decide)); have := b7 (q 7 (by decide) (by decide))
  simp_all [partsL, putP, noMs]
 ·have := b1 (q 1 (by decide) (by decide)); have := b2 (q 2 (by decide) (by decide)); have := b4 (q 4 (by decide) (by decide)); have := b7 (q 7 (by decide) (by decide))
  simp_all [partsL, putP, noMs]
 ·have := b1 (q 1 (by decide) (by decide)); have := b2 (q 2 (by decide) (by decide)); have := b3 (q 3 (by decide) (by decide)); have := b4 (q 4 (by decide) (by decide)); have := b6 (q 6 (by decide) (by decide))
  simp_all [partsL, putP, noMs]
theorem parseM_fwd {m : PMs} (h : mayM m = true) (hg : GM m) (r : List UInt8) : parseM (mForm m ++ r) = some (m, r) := by
 obtain ⟨hk, hr⟩ := mayM_parts h
 have e : ((m.kind.toNat : Nat) : Int) = m.kind := by omega
 unfold parseM mForm
 rw [List.append_assoc, pNum_fwd _ (by show _ ≤ 1099511627777; omega) (by omega)]
 simp only [Option.bind_some, e]
 rw [parts_fwd hg _ { noMs with kind := m.kind } r (fun p hp => ⟨(parts_mem hp).2, hr p hp⟩) rfl]
 ·rw [mayM_fold h]
 ·intro l1 l2 hL
  have hfold := mayM_fold h
  have h8 := mayM_ok h 2 (by decide)
  have b2 := (@bare_eqs m).2.2.1
  unfold partOk at h8
  obtain ⟨kind, pub, ver, there, ps, it, tb, tl, tc, frm, pg⟩ := m
  simp only at hk hL h8 b2 ⊢
  obtain rfl | rfl | rfl | rfl | rfl | rfl : kind = 1 ∨ kind = 2 ∨ kind = 3 ∨ kind = 4 ∨ kind = 5 ∨ kind = 6 := by omega
  ·have : l1 = [0, 1, 2] := by
    rcases l1 with _ | ⟨a, _ | ⟨b, _ | ⟨c, _ | ⟨d, t⟩⟩⟩⟩ <;> simp [partsL] at hL <;> simp_all
   subst this
   simp [putP, noMs]
  ·have : l1 = [] := by
    rcases l1 with _ | ⟨a, t⟩ <;> simp [partsL] at hL <;> simp_all
   subst this
   have := b2 (by simpa [partsL] using h8)
   simp [noMs, this]
  ·have : l1 = [] := by
    rcases l1 with _ | ⟨a, t⟩ <;> simp [partsL] at hL <;> simp_all
   subst this
   have := b2 (by simpa [partsL] using h8)
   simp [noMs, this]
  ·exfalso
   rcases l1 with _ | ⟨a, _ | ⟨b, t⟩⟩ <;> simp [partsL] at hL
  ·have : l1 = [5, 0] := by
    rcases l1 with _ | ⟨a, _ | ⟨b, _ | ⟨c, _ | ⟨d, t⟩⟩⟩⟩ <;> simp [partsL] at hL <;> simp_all
   subst this
   have := b2 (by simpa [partsL] using h8)
   simp [putP, noMs, this]
  ·exfalso
   rcases l1 with _ | ⟨a, _ | ⟨b, _ | ⟨c, t⟩⟩⟩ <;> simp [partsL] at hL
theorem takeM_some {b : List UInt8} {m : PMs} (h : takeM b = some m) : mayM m = true ∧ mForm m = b := by
 unfold takeM at h
 cases hp : parseM b with
 | none => rw [hp] at h; cases h
 | some x =>
  rw [hp] at h
  simp only [Option.bind_some] at h
  split at h
  ·rename_i hc
   simp only [Option.some.injEq] at h
   rw [Bool.and_eq_true, decide_eq_true_eq] at hc
   rw [← h]; exact hc
  ·cases h
theorem takeM_form {m : PMs} (h : mayM m = true) (hg : GM m) : takeM (mForm m) = some m := by
 have hp := parseM_fwd h hg []
 rw [List.append_nil] at hp
 unfold takeM
 rw [hp]
 simp [h]
/-- forms of two of which the one begins the other are one -/
theorem mForm_pre {m n : PMs} (h : mayM m = true) (hg : GM m) (h' : mayM n = true) (hg' : GM n) {t : List UInt8} (e : mForm m ++ t = mForm n) : t = [] ∧ m = n := by
 have h1 := parseM_fwd h hg t
 have h2 := parseM_fwd h' hg' []
 rw [List.append_nil] at h2
 rw [e, h2] at h1
 simp at h1
 exact ⟨h1.2, h1.1.symm⟩
end Go.Proofs.Ytiednihagnehlaa

namespace Go.Proofs.Ytiednihagnehlaa
open Go.RowKit

theorem zero_fine (w : World) : zeroMs.fine w := (MsO.zero w 0).fine
abbrev rowA : Ms := { zeroMs with kind := 1, pub := 5, ver := 2 }
abbrev rowB (v : Value) : Ms := { zeroMs with kind := 2, pv := v, ps := [hasA (.slice none 0 0)] }
abbrev rowC : Ms := { zeroMs with kind := 5, pub := 7, tb := 3, tl := 1, tc := 9, frm := 4 }
theorem fine_nums {w : World} {m : Ms} (h : m.fine w) (k p t : Int) (a b c d : Nat) (hk : I64 k ∧ I64 p ∧ I64 t) (hu : U64 a ∧ U64 b ∧ U64 c ∧ U64 d) (th : Bool) : ({ m with kind := k, pub := p, tb := t, ver := a, tl := b, tc := c, frm := d, there := th } : Ms).fine w := ⟨h.1, h.2.1, h.2.2.1, hk, hu⟩
theorem rowA_fine (w : World) : rowA.fine w := ⟨(zero_fine w).1, (zero_fine w).2.1, (zero_fine w).2.2.1, by unfold I64; decide, by unfold U64; decide⟩
theorem rowC_fine (w : World) : rowC.fine w := ⟨(zero_fine w).1, (zero_fine w).2.1, (zero_fine w).2.2.1, by unfold I64; decide, by unfold U64; decide⟩
theorem rowB_fine_n (v : Value) : (I64 (rowB v).kind ∧ I64 (rowB v).pub ∧ I64 (rowB v).tb) ∧ (U64 (rowB v).ver ∧ U64 (rowB v).tl ∧ U64 (rowB v).tc ∧ U64 (rowB v).frm) := by
 show (I64 2 ∧ I64 0 ∧ I64 0) ∧ (U64 0 ∧ U64 0 ∧ U64 0 ∧ U64 0)
 unfold I64 U64
 decide
theorem rowA_ok : mayM rowA.plain = true := by decide +kernel
theorem rowB_ok (v : Value) : mayM (rowB v).plain = true := by
 have h : (rowB v).plain = (rowB .nilIface).plain := rfl
 rw [h]
 decide +kernel
theorem rowC_ok : mayM rowC.plain = true := by decide +kernel
theorem rowA_form : mForm rowA.plain = [1, 5, 2, 0] := by
 simp [mForm, Ms.plain, zeroMs, partsL, partForm, form_lt]
theorem rowB_form (v : Value) : mForm (rowB v).plain = [2, 4, 1, 1, 97, 1] := by
 simp [mForm, Ms.plain, zeroMs, partsL, partForm, form_lt, tform, predForm, conForm, Con.plain, ByteArray.size]
theorem rowC_form : mForm rowC.plain = [5, 3, 1, 9, 7, 1, 0, 4] := by
 simp [mForm, Ms.plain, zeroMs, partsL, partForm, form_lt, tform, predForm]
theorem rowC_take (w : World) : takeM [5, 3, 1, 9, 7, 1, 0, 4] = some rowC.plain := by
 rw [← rowC_form]
 exact takeM_form rowC_ok ⟨w, rowC, rowC_fine w, rfl⟩
theorem bad_take : takeM [1, 5, 2, 2] = none := Option.isNone_iff_eq_none.1 (by decide +kernel)

attribute [-go_sem] loadVar storeVar
end Go.Proofs.Ytiednihagnehlaa

namespace Go.Proofs.Ytiednihagnehlaa
open Go.RowKit

/-- the query that 'ask' makes -/
def askMs (b : Int) (l c : Nat) : Ms := { zeroMs with kind := 5, tb := b, tl := l, tc := c, frm := 1 }
abbrev pAsk (b : Int) (l c : Nat) : PMs := (askMs b l c).plain
theorem ask_bare (b : Int) (l c : Nat) (hb : I64 b) (hl : U64 l) (hc : U64 c) : BareMs (askMs b l c) :=
 bare_of fun w => fine_nums (zero_fine w) 5 0 b 0 l c 1 ⟨by unfold I64; decide, by unfold I64; decide, hb⟩ ⟨by unfold U64; decide, hl, hc, by unfold U64; decide⟩ false
attribute [-go_sem] loadVar storeVar
set_option maxRecDepth 100000 in
theorem ask_any (b : Int) (l c : Nat) (w : World) (hb : I64 b) (hl : U64 l) (hc : U64 c) : Calls Try.prog 9 #[.int .i64 b, .int .u64 (l : Int), .int .u64 (c : Int)] w fun e w' => e = .returned (.agg (askMs b l c).cells.toArray) ∧ Old w w' := by
 have hone := (ask_bare b l c hb hl hc (fun _ => False) w).fine.one
 obtain ⟨Wa, hWa⟩ : ∃ W, w.alloc (.cells zeroMs.cells.toArray 43) = W := ⟨_, rfl⟩
 have ba : MAt Wa w.heap.size zeroMs := by rw [← hWa]; exact heap_alloc_new _ _
 have oa : Old w Wa := by rw [← hWa]; exact (Keeps.refl _ _).alloc _
 obtain ⟨W2, hst, b2, kb⟩ := store_msg ba (askMs b l c) hone
 have o2 : Old w W2 := oa.then kb (fun i hi e => by omega)
 have gl := load_msg b2 rfl
 change (storeVar 43 ⟨w.heap.size, 0, none⟩ (.agg #[.int .i64 5, .int .i64 0, .int .u64 0, .bool false, .slice none 0 0, .int .u64 0, .int .u64 0, .string ⟨#[]⟩, .slice none 0 0, .int .i64 b, .int .u64 (l : Int), .int .u64 (c : Int), .int .u64 1, .int .u64 0, .int .u64 0, .slice none 0 0, .slice none 0 0, .bool false])).run Try.prog Wa = .ok () W2 at hst
 change w.alloc (.cells #[.int .i64 0, .int .i64 0, .int .u64 0, .bool false, .slice none 0 0, .int .u64 0, .int .u64 0, .string ⟨#[]⟩, .slice none 0 0, .int .i64 0, .int .u64 0, .int .u64 0, .int .u64 0, .int .u64 0, .int .u64 0, .slice none 0 0, .slice none 0 0, .bool false] 43) = Wa at hWa
 have K := Lib.hid (And.intro o2 gl)
 clear ba oa b2 kb o2 gl hone hb hl hc
 go_enter Try.func9, Try.ntmps9
 go_wp2_with fail
 have gl := K.out.2
 refine bodyPost_ret (v := .agg (askMs b l c).cells.toArray) ?_ rfl ⟨rfl, K.out.1⟩
 simp [results, Try.results9, go_sem, gl]

theorem may_ask (b : Int) (l c : Nat) : mayM (pAsk b l c) = (decide (0 ≤ b) && (decide (b < 64) && (numOk l && numOk c))) := by
 have h0 : partsL (pAsk b l c).kind = [5, 0, 3, 6] := rfl
 unfold mayM
 have hp : ∀ p : Int, partOk (pAsk b l c) p = if p = 5 ∨ p = 0 ∨ p = 3 ∨ p = 6 then rightM (pAsk b l c) p else bareM (pAsk b l c) p := by
  intro p
  unfold partOk
  rw [h0]
  simp
 have e5 : rightM (pAsk b l c) 5 = (decide (0 ≤ b) && (decide (b < 64) && (numOk l && numOk c))) := rfl
 have e0 : rightM (pAsk b l c) 0 = true := rfl
 have e3 : rightM (pAsk b l c) 3 = true := rfl
 have e6 : rightM (pAsk b l c) 6 = true := rfl
 have f1 : bareM (pAsk b l c) 1 = true := rfl
 have f2 : bareM (pAsk b l c) 2 = true := rfl
 have f4 : bareM (pAsk b l c) 4 = true := (show sameI zeroMs.plain.it noItem = true by decide +kernel)
 have f7 : bareM (pAsk b l c) 7 = true := (show sameG zeroMs.plain.pg noPage = true by decide +kernel)
 have hr : List.range 8 = [0, 1, 2, 3, 4, 5, 6, 7] := rfl
 rw [hr, h0]
 simp only [List.all_cons, List.all_nil, hp]
 simp [e5, e0, e3, e6, f1, f2, f4, f7]

theorem add_ask {R S : Nat → Prop} {w : World} {qb most : Nat} {P : List (Int × PMs)} (link b : Int) (l c : Nat) (hb : I64 b) (hl : U64 l) (hc : U64 c) (h : QuP R S w qb most P) (hm : 1 ≤ most) (hlen : P.length ≤ 10000) :
  Calls Try.prog 10 #[.pointer (some ⟨qb, 0, none⟩), .int .i64 link, .agg (askMs b l c).cells.toArray] w (AddPost R S w qb most P (link, pAsk b l c)) :=
 add_q link (askMs b l c) h hm hlen (ask_bare b l c hb hl hc S w)
theorem addP_ask (most : Nat) (P : List (Int × PMs)) (link b : Int) (l c : Nat) : addP most P (link, pAsk b l c) =
  if (decide (0 ≤ b) && (decide (b < 64) && (numOk l && numOk c))) = true then
   if P.any (staleP b l c) = true then (9, P)
   else if decide (most ≤ (P.filter fun y => !dropP b l y).length) = true then (7, P.filter fun y => !dropP b l y)
   else (0, (P.filter fun y => !dropP b l y) ++ [(link, pAsk b l c)])
  else (30, P) := by
 unfold addP
 rw [if_pos (show ((link, pAsk b l c).2.kind == 5) = true from rfl), show (link, pAsk b l c).2 = pAsk b l c from rfl, may_ask]
 rfl
/-- a queue of which all memory is new since the world w -/
def QN (w : World) (W : World) (qb most : Nat) (P : List (Int × PMs)) : Prop := ∃ R S : Nat → Prop, QuP R S W qb most P ∧ (∀ k, R k → w.heap.size ≤ k) ∧ Old w W
theorem QN.add {w W W' : World} {qb most : Nat} {P : List (Int × PMs)} {x : Int × PMs} {e : Ending} {R S : Nat → Prop} (hR : ∀ k, R k → w.heap.size ≤ k) (ho : Old w W) (h : AddPost R S W qb most P x e W') : e = .returned (.int .i64 (addP most P x).1) ∧ QN w W' qb most (addP most P x).2 := by
 obtain ⟨R', h1, h2, he, hq, hk⟩ := h
 refine ⟨he, R', _, hq, fun k hk => ?_, ho.then hk (fun i hi hr => by have := hR i hr; omega)⟩
 rcases h1 k hk with h | h
 ·exact hR k h
 ·exact Nat.le_trans ho.size h
end Go.Proofs.Ytiednihagnehlaa

namespace Go.Proofs.Ytiednihagnehlaa
open Go.RowKit

theorem QN.next_yes {w W W' : World} {qb most : Nat} {x : Int × PMs} {P : List (Int × PMs)} {e : Ending} {R S : Nat → Prop} (hR : ∀ k, R k → w.heap.size ≤ k) (ho : Old w W) (h : NextYes R S W qb most x P e W') : ∃ m : Ms, e = .returned (.tuple #[.int .i64 x.1, .agg m.cells.toArray, .bool true]) ∧ m.plain = x.2 ∧ m.fine W' ∧ QN w W' qb most P := by
 obtain ⟨m, he, hp, hs, hq, hk⟩ := h
 exact ⟨m, he, hp, hs.fine, R, S, hq, hR, ho.then hk (fun i hi hr => by have := hR i hr; omega)⟩
theorem QN.old {w W W' : World} {qb most : Nat} {P : List (Int × PMs)} (h : QN w W qb most P) (hk : Old W W') : QN w W' qb most P := by
 obtain ⟨R, S, hq, hR, ho⟩ := h
 exact ⟨R, S, hq.old hk, hR, ho.trans hk⟩
theorem QN.to {w W : World} {qb most : Nat} {P : List (Int × PMs)} (h : QN w W qb most P) : Old w W := by
 obtain ⟨R, S, hq, hR, ho⟩ := h
 exact ho
theorem tok_cells {w : World} {b : Nat} {m : Ms} {t : TypeId} (h : w.heap[b]? = some (.cells m.cells.toArray t (0, 0))) :
  w.cell? ⟨b, 9, none⟩ = some (.int .i64 m.tb) ∧ w.cell? ⟨b, 10, none⟩ = some (.int .u64 (m.tl : Int)) ∧ w.cell? ⟨b, 11, none⟩ = some (.int .u64 (m.tc : Int)) := by simp [World.cell?, h, Ms.cells]

attribute [-go_sem] loadVar storeVar
set_option maxRecDepth 100000 in
set_option maxHeartbeats 4000000 in
theorem pwakes_any (w : World) : Calls Try.prog 15 #[] w fun e w' => e = .returned (.bool true) ∧ Old w w' := by
 have q2 : ∀ a W, (loadVar 28 a).run Try.prog W = (load a).run Try.prog W := fun _ _ => by kernel_rfl
 have C0 := Lib.hid (new_yes 2 w ⟨by decide, by decide⟩)
 go_enter Try.func15, Try.ntmps15
 go_wp2_with fail
 refine C0.out.mono ?_
 rintro e w0 ⟨qb, rfl, rfl, k1, hq1⟩
 have Q0 := Lib.hid (show QN w w0 w.heap.size 2 [] from ⟨_, _, ⟨[], rfl, hq1 (fun _ => False) (fun _ f => f.elim)⟩, fun k hk => by subst hk; exact Nat.le_refl _, k1⟩)
 clear k1 hq1 C0
 go_wp2_with fail
 refine (ask_any 3 1 1 _ (by unfold I64; decide) (by unfold U64; decide) (by unfold U64; decide)).mono ?_
 rintro e w0a ⟨rfl, k0⟩
 obtain ⟨R0, S0, hq0, hR0, ho0⟩ := Q0.out.old k0
 have A0 := Lib.hid (add_ask 0 3 1 1 (by unfold I64; decide) (by unfold U64; decide) (by unfold U64; decide) hq0 (by decide) (by decide))
 have hv0 : addP 2 [] (0, pAsk 3 1 1) = (0, [(0, pAsk 3 1 1)]) := by rw [addP_ask]; rfl
 have Y0 := Lib.hid (And.intro hR0 (And.intro ho0 hv0))
 clear k0 hq0 hR0 ho0 hv0
 go_wp2_with fail
 refine A0.out.mono ?_
 rintro e w1 h
 obtain ⟨he, hq⟩ := QN.add Y0.out.1 Y0.out.2.1 h
 rw [Y0.out.2.2] at he hq
 dsimp only at he hq
 subst he
 have Q1 := Lib.hid hq
 clear h hq A0 Q0
 go_wp2_with fail
 refine (ask_any 3 1 1 _ (by unfold I64; decide) (by unfold U64; decide) (by unfold U64; decide)).mono ?_
 rintro e w1a ⟨rfl, k1⟩
 obtain ⟨R1, S1, hq1, hR1, ho1⟩ := Q1.out.old k1
 have A1 := Lib.hid (add_ask 0 3 1 1 (by unfold I64; decide) (by unfold U64; decide) (by unfold U64; decide) hq1 (by decide) (by decide))
 have hv1 : addP 2 [(0, pAsk 3 1 1)] (0, pAsk 3 1 1) = (9, [(0, pAsk 3 1 1)]) := by rw [addP_ask]; rfl
 have Y1 := Lib.hid (And.intro hR1 (And.intro ho1 hv1))
 clear k1 hq1 hR1 ho1 hv1
 go_wp2_with fail
 refine A1.out.mono ?_
 rintro e w2 h
 obtain ⟨he, hq⟩ := QN.add Y1.out.1 Y1.out.2.1 h
 rw [Y1.out.2.2] at he hq
 dsimp only at he hq
 subst he
 have Q2 := Lib.hid hq
 clear h hq A1 Q1
 go_wp2_with fail
 refine (ask_any 3 1 2 _ (by unfold I64; decide) (by unfold U64; decide) (by unfold U64; decide)).mono ?_
 rintro e w2a ⟨rfl, k2⟩
 obtain ⟨R2, S2, hq2, hR2, ho2⟩ := Q2.out.old k2
 have A2 := Lib.hid (add_ask 1 3 1 2 (by unfold I64; decide) (by unfold U64; decide) (by unfold U64; decide) hq2 (by decide) (by decide))
 have hv2 : addP 2 [(0, pAsk 3 1 1)] (1, pAsk 3 1 2) = (0, [(0, pAsk 3 1 1), (1, pAsk 3 1 2)]) := by rw [addP_ask]; rfl
 have Y2 := Lib.hid (And.intro hR2 (And.intro ho2 hv2))
 clear k2 hq2 hR2 ho2 hv2
 go_wp2_with fail
 refine A2.out.mono ?_
 rintro e w3 h
 obtain ⟨he, hq⟩ := QN.add Y2.out.1 Y2.out.2.1 h
 rw [Y2.out.2.2] at he hq
 dsimp only at he hq
 subst he
 have Q3 := Lib.hid hq
 clear h hq A2 Q2
 go_wp2_with fail
 refine (ask_any 3 1 3 _ (by unfold I64; decide) (by unfold U64; decide) (by unfold U64; decide)).mono ?_
 rintro e w3a ⟨rfl, k3⟩
 obtain ⟨R3, S3, hq3, hR3, ho3⟩ := Q3.out.old k3
 have A3 := Lib.hid (add_ask 0 3 1 3 (by unfold I64; decide) (by unfold U64; decide) (by unfold U64; decide) hq3 (by decide) (by decide))
 have hv3 : addP 2 [(0, pAsk 3 1 1), (1, pAsk 3 1 2)] (0, pAsk 3 1 3) = (7, [(0, pAsk 3 1 1), (1, pAsk 3 1 2)]) := by rw [addP_ask]; rfl
 have Y3 := Lib.hid (And.intro hR3 (And.intro ho3 hv3))
 clear k3 hq3 hR3 ho3 hv3
 go_wp2_with fail
 refine A3.out.mono ?_
 rintro e w4 h
 obtain ⟨he, hq⟩ := QN.add Y3.out.1 Y3.out.2.1 h
 rw [Y3.out.2.2] at he hq
 dsimp only at he hq
 subst he
 have Q4 := Lib.hid hq
 clear h hq A3 Q3
 go_wp2_with fail
 refine (ask_any 3 2 1 _ (by unfold I64; decide) (by unfold U64; decide) (by unfold U64; decide)).mono ?_
 rintro e w4a ⟨rfl, k4⟩
 obtain ⟨R4, S4, hq4, hR4, ho4⟩ := Q4.out.old k4
 have A4 := Lib.hid (add_ask 7 3 2 1 (by unfold I64; decide) (by unfold U64; decide) (by unfold U64; decide) hq4 (by decide) (by decide))
 have hv4 : addP 2 [(0, pAsk 3 1 1), (1, pAsk 3 1 2)] (7, pAsk 3 2 1) = (0, [(7, pAsk 3 2 1)]) := by rw [addP_ask]; rfl
 have Y4 := Lib.hid (And.intro hR4 (And.intro ho4 hv4))
 clear k4 hq4 hR4 ho4 hv4
 go_wp2_with fail
 refine A4.out.mono ?_
 rintro e w5 h
 obtain ⟨he, hq⟩ := QN.add Y4.out.1 Y4.out.2.1 h
 rw [Y4.out.2.2] at he hq
 dsimp only at he hq
 subst he
 have Q5 := Lib.hid hq
 clear h hq A4 Q4
 go_wp2_with fail
 obtain ⟨R, S, ⟨L, hL, hq⟩, _, _⟩ := Q5.out
 have hl := congrArg List.length hL
 rw [List.length_map] at hl
 refine (len_q hq (by decide)).mono ?_
 rintro e w' ⟨rfl, rfl⟩
 rw [hl]
 clear hL hq hl
 go_wp2_with fail
 refine (ask_any 3 1 9 _ (by unfold I64; decide) (by unfold U64; decide) (by unfold U64; decide)).mono ?_
 rintro e w5a ⟨rfl, k5⟩
 obtain ⟨R5, S5, hq5, hR5, ho5⟩ := Q5.out.old k5
 have A5 := Lib.hid (add_ask 0 3 1 9 (by unfold I64; decide) (by unfold U64; decide) (by unfold U64; decide) hq5 (by decide) (by decide))
 have hv5 : addP 2 [(7, pAsk 3 2 1)] (0, pAsk 3 1 9) = (9, [(7, pAsk 3 2 1)]) := by rw [addP_ask]; rfl
 have Y5 := Lib.hid (And.intro hR5 (And.intro ho5 hv5))
 clear k5 hq5 hR5 ho5 hv5
 go_wp2_with fail
 refine A5.out.mono ?_
 rintro e w6 h
 obtain ⟨he, hq⟩ := QN.add Y5.out.1 Y5.out.2.1 h
 rw [Y5.out.2.2] at he hq
 dsimp only at he hq
 subst he
 have Q6 := Lib.hid hq
 clear h hq A5 Q5
 go_wp2_with fail
 obtain ⟨R, S, hq, hR, ho⟩ := Q6.out
 have X := Lib.hid (And.intro hR ho)
 have N1 := Lib.hid (next_some hq (by decide))
 clear hq hR ho
 refine N1.out.mono ?_
 rintro e w20 h
 obtain ⟨m, rfl, hp, hf, hq⟩ := QN.next_yes X.out.1 X.out.2 h
 have htl : m.tl = 2 := congrArg PMs.tl hp
 have hone := hf.one
 obtain ⟨Wa, hWa⟩ : ∃ W, w20.alloc (.cells zeroMs.cells.toArray 43) = W := ⟨_, rfl⟩
 have ba : MAt Wa w20.heap.size zeroMs := by rw [← hWa]; exact heap_alloc_new _ _
 have oa : Old w20 Wa := by rw [← hWa]; exact (Keeps.refl _ _).alloc _
 obtain ⟨W2, hst, b2, kb⟩ := store_msg ba m hone
 have o2 : Old w20 W2 := oa.then kb (fun i hi e => by omega)
 change w20.alloc (.cells #[.int .i64 0, .int .i64 0, .int .u64 0, .bool false, .slice none 0 0, .int .u64 0, .int .u64 0, .string ⟨#[]⟩, .slice none 0 0, .int .i64 0, .int .u64 0, .int .u64 0, .int .u64 0, .int .u64 0, .int .u64 0, .slice none 0 0, .slice none 0 0, .bool false] 43) = Wa at hWa
 obtain ⟨_, _, hq2, hR2, ho2⟩ := hq.old o2
 dsimp only
 have Y := Lib.hid (And.intro hR2 (And.intro ho2 (And.intro b2 htl)))
 have N2 := Lib.hid (next_empty hq2 (by decide))
 have QZ := Lib.hid (hq.old o2)
 clear h hp hf hq htl hone ba oa b2 kb o2 hq2 hR2 ho2 N1
 go_wp2_with fail
 refine N2.out.mono ?_
 rintro e w21 ⟨rfl, k21⟩
 obtain ⟨Wb, hWb⟩ : ∃ W, w21.alloc (.cells zeroMs.cells.toArray 43) = W := ⟨_, rfl⟩
 have bb : MAt Wb w21.heap.size zeroMs := by rw [← hWb]; exact heap_alloc_new _ _
 have ob : Old w21 Wb := by rw [← hWb]; exact (Keeps.refl _ _).alloc _
 obtain ⟨W3, hst3, b3, kb3⟩ := store_msg bb zeroMs (MsO.zero w21 0).one
 have o3 : Old w21 W3 := ob.then kb3 (fun i hi e => by omega)
 change w21.alloc (.cells #[.int .i64 0, .int .i64 0, .int .u64 0, .bool false, .slice none 0 0, .int .u64 0, .int .u64 0, .string ⟨#[]⟩, .slice none 0 0, .int .i64 0, .int .u64 0, .int .u64 0, .int .u64 0, .int .u64 0, .int .u64 0, .slice none 0 0, .slice none 0 0, .bool false] 43) = Wb at hWb
 have kk := k21.trans o3
 have b4 := (kk.block _ (lt_of_heap Y.out.2.2.1) (fun f => f)).trans Y.out.2.2.1
 obtain ⟨t0, t1, t2⟩ := tok_cells b4
 rw [Y.out.2.2.2] at t1
 have QE := Lib.hid (QZ.out.old kk)
 clear k21 bb ob b3 kb3 o3 kk b4 N2
 go_wp2_with fail
 obtain ⟨R, S, ⟨L, hL, hq⟩, _, _⟩ := QE.out
 have hl := congrArg List.length hL
 rw [List.length_map] at hl
 refine (len_q hq (by decide)).mono ?_
 rintro e w' ⟨rfl, rfl⟩
 rw [hl]
 clear hL hq hl
 go_wp2_with fail
 go_ret
 exact ⟨rfl, QE.out.to⟩
end Go.Proofs.Ytiednihagnehlaa

namespace Go.Proofs.Ytiednihagnehlaa
open Go.ChangeShapes Go.WideShapes Go.ChangeAt Go.RowKit

theorem one_le_bulk {H : Type} (d : DataW H) : 1 ≤ Rows.uptoBulk d := by
 cases d with
 | lit l => cases l <;> simp [Rows.uptoBulk]
 | nil => simp [Rows.uptoBulk]
 | ptr d => simp [Rows.uptoBulk]
 | slice elems spare => simp [Rows.uptoBulk]
 | agg parts => simp [Rows.uptoBulk]
 | iface t d => simp [Rows.uptoBulk]
 | map entries => simp [Rows.uptoBulk]
 | held h => simp [Rows.uptoBulk]
theorem part_bulk {H : Type} {d : DataW H} {l : List (DataW H)} (h : d ∈ l) : Rows.uptoBulk d ≤ Rows.uptoBulkAll l := by
 induction l with
 | nil => cases h
 | cons x r ih =>
  simp only [Rows.uptoBulkAll]
  cases List.mem_cons.1 h with
  | inl e => subst e; omega
  | inr e => have := ih e; omega
theorem length_bulk {H : Type} (l : List (DataW H)) : l.length ≤ Rows.uptoBulkAll l := by
 induction l with
 | nil => simp [Rows.uptoBulkAll]
 | cons x r ih => have := one_le_bulk x; simp only [Rows.uptoBulkAll, List.length_cons]; omega
theorem elems_bulk {H : Type} (elems spare : List (DataW H)) : Rows.uptoBulkAll elems + 1 ≤ Rows.uptoBulk (.slice elems spare) := by
 simp only [Rows.uptoBulk]; omega

/-- a []byte among what came in, at whatever depth -/
theorem trod_bytes {H : Type} {enc : TypeId × Value → H} {W : World} {fuel : Nat} {cs : List Value} {x : DataW H × List MemPlace} (hf : DataW.trod enc Try.prog W 0 (fun _ => true) true fuel 146 cs = some x) :
  ∃ (v : Value) (l : List UInt8), cs = [v] ∧ Sees W v l ∧ l.length < Rows.uptoBulk x.1 := by
 rcases open_ints Try.underlying146 Try.underlying5 (by kernel_rfl) hf with ⟨hcs, hx⟩ | ⟨a, len, cap, zs, hcs, _, hl, hm, hz, hx, hcell, hwz⟩
 ·exact ⟨_, [], hcs, Sees.nil W, one_le_bulk x.1⟩
 ·subst hx
  have hz' : zs.length = cap := by simpa using hz
  have hlen : ((zs.take len).map fun z => UInt8.ofNat z.toNat).length = len := by simp; omega
  refine ⟨_, (zs.take len).map fun z => UInt8.ofNat z.toNat, hcs, ⟨some a, cap, by rw [hlen], by rw [hlen]; exact hl, hm, fun h => (by cases h), fun a' ha => ?_⟩, ?_⟩
  ·cases ha
   refine ⟨fun hc => ?_, fun j b hj => ?_⟩
   ·have := hcell 0 (by omega)
    have hs := World.cell?_spot this
    simpa [Addr.add] using hs
   ·rw [List.getElem?_map, Option.map_eq_some_iff] at hj
    obtain ⟨z, hz1, rfl⟩ := hj
    rw [List.getElem?_take] at hz1
    split at hz1
    ·have hjl := (List.getElem?_eq_some_iff.1 hz1).1
     rw [hcell j hjl]
     have hzz : zs.getD j 0 = z := by simp [List.getD, hz1]
     have hw := hwz z (List.mem_of_getElem? hz1)
     have hr : 0 ≤ z ∧ z ≤ 255 := by simpa [Lit.wf, IntKind.min, IntKind.max, IntKind.signed, IntKind.bits] using hw
     rw [hzz]
     unfold u8
     rw [UInt8.toNat_ofNat']
     congr 2
     omega
    ·cases hz1
  ·rw [hlen]
   have h1 := elems_bulk (lits (H := H) .u8 (zs.take len)) (lits .u8 (zs.drop len))
   have h2 := length_bulk (lits (H := H) .u8 (zs.take len))
   have h3 : (lits (H := H) .u8 (zs.take len)).length = len := by simp [lits]; omega
   simp only at h1 ⊢
   omega
set_option maxRecDepth 100000 in
theorem read_bytes {H : Type} {enc : TypeId × Value → H} {W : World} {base : Nat} {v : Value} {d : DataW H} {p : List MemPlace} (hv : Value.okWide Try.prog W .any base 146 v)
  (h : DataW.Trod enc Try.prog W 0 (fun _ => true) true 146 v d p) : ∃ l : List UInt8, Sees W v l ∧ l.length < Rows.uptoBulk d := by
 obtain ⟨a, len, cap, rfl⟩ := okWide_slice Try.underlying146 hv
 obtain ⟨fuel, hf⟩ := h
 obtain ⟨v, l, hc, hs, hl⟩ := trod_bytes hf
 simp only [Value.cells, List.cons.injEq, and_true] at hc
 subst hc
 exact ⟨l, hs, hl⟩
end Go.Proofs.Ytiednihagnehlaa
