/- DERIVED. Chapter 21: a message's form, read again (plain). · DERIVED. Chapter 21: the chapter's rows. · DERIVED. Chapter 21: Ours, theirs. (gen_ow.py wrote it) · DERIVED. Chapter 25: a query; what the closures of the queue ask. -/
import Derived.Test.YtiednihagnehlaaY19
import Derived.Test.YtiednihagnehlaaY14
import Derived.Test.YtiednihagnehlaaY04
namespace Go.Proofs.Ytiednihagnehlaa
open Go.RowKit

/-- a message as a message of the program may be: its numbers lie in their ranges -/
def GM (m : PMs) : Prop := ∃ (w : World) (x : Ms), x.fine w ∧ x.plain = m
theorem pB_fwd {F : List UInt8} (r : List UInt8) (h : F.length ≤ 1048576) : pB (tform F ++ r) = some (F, r) := by
 have h1 := pText_fwd (most := 1048576) (s := ⟨F.toArray⟩) r (by rw [arr_size]; exact h) (by decide)
 rw [arr_size, arr_toList] at h1
 unfold pText at h1
 unfold pB tform
 have hc : ((1048576 : Nat) : Int) = 1048576 := rfl
 rw [hc] at h1
 split at h1
 ·rename_i h0
  rw [if_pos h0]
  simp only [Option.some.injEq, Prod.mk.injEq] at h1 ⊢
  refine ⟨?_, h1.2⟩
  have h2 := congrArg ByteArray.toList h1.1
  rwa [arr_toList, arr_toList] at h2
 ·cases h1
theorem pPart_fwd {α : Type} {take : List UInt8 → Option α} {F : List UInt8} {x : α} (r : List UInt8) (h : F.length ≤ 1048576) (ht : take F = some x) : pPart take (tform F ++ r) = some (x, r) := by
 unfold pPart
 rw [pB_fwd r h]
 simp only [Option.bind_some, ht, Option.map_some]
theorem mayM_ok {m : PMs} (h : mayM m = true) (p : Nat) (hp : p < 8) : partOk m (p : Int) = true := by
 unfold mayM at h
 rw [Bool.and_eq_true, List.all_eq_true] at h
 exact h.1 p (by simpa using hp)
/-- one part of m is put into m0 -/
def putP (m m0 : PMs) (p : Int) : PMs :=
 if p = 0 then { m0 with pub := m.pub } else if p = 1 then { m0 with ver := m.ver } else if p = 2 then { m0 with there := m.there } else if p = 3 then { m0 with ps := m.ps } else if p = 4 then { m0 with it := m.it }
 else if p = 5 then { m0 with tb := m.tb, tl := m.tl, tc := m.tc } else if p = 6 then { m0 with frm := m.frm } else { m0 with pg := m.pg }
theorem tform_ge (F : List UInt8) : F.length ≤ (tform F).length := by unfold tform; simp
theorem right6' {m : PMs} (h : rightM m 6 = true) : m.frm ≤ 1099511627777 := by
 unfold rightM at h
 simp only [show ¬ ((6 : Int) = 0) by decide, show ¬ ((6 : Int) = 1) by decide, show ¬ ((6 : Int) = 3) by decide, show ¬ ((6 : Int) = 4) by decide, show ¬ ((6 : Int) = 5) by decide, if_false, if_true, Bool.and_eq_true, decide_eq_true_eq] at h
 exact h.2
theorem right1' {m : PMs} (h : rightM m 1 = true) : m.ver ≤ 1099511627776 := by
 unfold rightM numOk at h
 simp only [show ¬ ((1 : Int) = 0) by decide, if_false, if_true, Bool.and_eq_true, decide_eq_true_eq] at h
 exact h.2
theorem right3e {m : PMs} (h : rightM m 3 = true) (hc : m.kind = 1 ∧ m.there = false) : m.ps = [] := by
 unfold rightM at h
 simp only [show ¬ ((3 : Int) = 0) by decide, show ¬ ((3 : Int) = 1) by decide, if_false, if_true] at h
 simp [hc.1, hc.2] at h
 exact h
theorem step_fwd {m m0 : PMs} {p : Int} (hp : 0 ≤ p ∧ p ≤ 7) (hr : rightM m p = true) (hg : GM m) (hk : m0.kind = m.kind) (h3 : p = 3 → m0.there = m.there ∧ m0.ps = []) (r : List UInt8) : stepM p m0 (partForm m p ++ r) = some (putP m m0 p, r) := by
 obtain ⟨w, x, hf, hx⟩ := hg
 have hle := part_le hf hp (by rw [hx]; exact hr)
 rw [hx] at hle
 obtain rfl | rfl | rfl | rfl | rfl | rfl | rfl | rfl : p = 0 ∨ p = 1 ∨ p = 2 ∨ p = 3 ∨ p = 4 ∨ p = 5 ∨ p = 6 ∨ p = 7 := by omega
 ·have h := right0' hr
  have e : ((m.pub.toNat : Nat) : Int) = m.pub := by omega
  simp only [stepM, partForm, putP, if_true]
  rw [pNum_fwd r (by show _ ≤ 1099511627777; omega) (by omega)]
  simp only [Option.map_some, e]
 ·have h := right1' hr
  simp only [stepM, partForm, putP, show ¬ ((1 : Int) = 0) by decide, if_false, if_true]
  rw [pNum_fwd r (by show _ ≤ 1099511627777; omega) (by omega)]
  rfl
 ·simp only [stepM, partForm, putP, show ¬ ((2 : Int) = 0) by decide, show ¬ ((2 : Int) = 1) by decide, if_false, if_true]
  rw [pNum_fwd r (by show _ ≤ 1099511627777; split <;> omega) (by split <;> omega)]
  cases m.there <;> rfl
 ·simp only [stepM, partForm, putP, show ¬ ((3 : Int) = 0) by decide, show ¬ ((3 : Int) = 1) by decide, show ¬ ((3 : Int) = 2) by decide, if_false, if_true] at hle ⊢
  by_cases hc : m.kind = 1 ∧ m.there = false
  ·rw [if_pos (by rw [hk, (h3 rfl).1]; exact hc), if_pos hc, right3e hr hc]
   have := (h3 rfl).2
   obtain ⟨a1, a2, a3, a4, a5, a6, a7, a8, a9, a10, a11⟩ := m0
   simp only at this
   subst this
   rfl
  ·rw [if_neg hc] at hle
   rw [if_neg (by rw [hk, (h3 rfl).1]; exact hc), if_neg hc]
   have ho := right3' hr hc
   have hcg : ∀ c ∈ m.ps, ConG c := by
    have e : m.ps = x.ps.map Con.plain := by rw [← hx]; rfl
    rw [e] at ho ⊢
    exact consG hf.1.1 ho
   have := tform_ge (predForm m.ps)
   rw [pPart_fwd r (by omega) (takeP_form ho hcg)]
   rfl
 ·have ho := right4' hr
  simp only [stepM, partForm, putP, show ¬ ((4 : Int) = 0) by decide, show ¬ ((4 : Int) = 1) by decide, show ¬ ((4 : Int) = 2) by decide, show ¬ ((4 : Int) = 3) by decide, if_false, if_true] at hle ⊢
  have := tform_ge (itForm m.it)
  have hfe : Fits m.it.es := by rw [← hx]; exact hf.2.1.2.2.1
  rw [pPart_fwd r (by omega) (takeI_form ho hfe)]
  rfl
 ·have h := right5' hr
  have h2 := h.2
  unfold numOk at h2
  simp only [Bool.and_eq_true, decide_eq_true_eq] at h2
  have e : ((m.tb.toNat : Nat) : Int) = m.tb := by omega
  simp only [stepM, partForm, putP, show ¬ ((5 : Int) = 0) by decide, show ¬ ((5 : Int) = 1) by decide, show ¬ ((5 : Int) = 2) by decide, show ¬ ((5 : Int) = 3) by decide, show ¬ ((5 : Int) = 4) by decide, if_false, if_true, List.append_assoc]
  rw [pNum_fwd _ (by show _ ≤ 1099511627777; omega) (by omega)]
  simp only [Option.bind_some]
  rw [pNum_fwd _ (by show _ ≤ 1099511627777; omega) (by omega)]
  simp only [Option.bind_some]
  rw [pNum_fwd _ (by show _ ≤ 1099511627777; omega) (by omega)]
  simp only [Option.map_some, e]
 ·have h := right6' hr
  simp only [stepM, partForm, putP, show ¬ ((6 : Int) = 0) by decide, show ¬ ((6 : Int) = 1) by decide, show ¬ ((6 : Int) = 2) by decide, show ¬ ((6 : Int) = 3) by decide, show ¬ ((6 : Int) = 4) by decide, show ¬ ((6 : Int) = 5) by decide, if_false, if_true]
  rw [pNum_fwd r (by show _ ≤ 1099511627777; omega) (by omega)]
  rfl
 ·have ho := right7' hr
  simp only [stepM, partForm, putP, show ¬ ((7 : Int) = 0) by decide, show ¬ ((7 : Int) = 1) by decide, show ¬ ((7 : Int) = 2) by decide, show ¬ ((7 : Int) = 3) by decide, show ¬ ((7 : Int) = 4) by decide, show ¬ ((7 : Int) = 5) by decide, show ¬ ((7 : Int) = 6) by decide, if_false] at hle ⊢
  have := tform_ge (pageForm m.pg)
  have hfe : ∀ y ∈ m.pg.items, Fits y.es := by
   rw [← hx]
   intro y hy
   obtain ⟨z, hz, rfl⟩ := List.mem_map.1 hy
   exact (hf.2.2.1.1.2.1 z hz).2.2.1
  rw [pPart_fwd r (by omega) (takeG_form ho hfe)]
  rfl
/-- the parts are read again -/
theorem parts_fwd {m : PMs} (hg : GM m) : ∀ (L : List Int) (m0 : PMs) (r : List UInt8), (∀ p ∈ L, (0 ≤ p ∧ p ≤ 7) ∧ rightM m p = true) → m0.kind = m.kind → (∀ l1 l2, L = l1 ++ 3 :: l2 → (l1.foldl (putP m) m0).there = m.there ∧ (l1.foldl (putP m) m0).ps = []) →
  partsM L m0 (L.flatMap (partForm m) ++ r) = some (L.foldl (putP m) m0, r)
 | [], m0, r, _, _, _ => rfl
 | p :: L, m0, r, h, hk, h3 => by
  unfold partsM
  rw [List.flatMap_cons, List.append_assoc, step_fwd (h p (by simp)).1 (h p (by simp)).2 hg hk (fun e => h3 [] L (by rw [e]; rfl))]
  simp only [Option.bind_some, List.foldl_cons]
  refine parts_fwd hg L _ r (fun q hq => h q (by simp [hq])) ?_ (fun l1 l2 e => h3 (p :: l1) l2 (by rw [e]; rfl))
  unfold putP
  (repeat' split) <;> exact hk
theorem bare_eqs {m : PMs} : (bareM m 0 = true → m.pub = 0) ∧ (bareM m 1 = true → m.ver = 0) ∧ (bareM m 2 = true → m.there = false) ∧ (bareM m 3 = true → m.ps = []) ∧ (bareM m 4 = true → m.it = noItem) ∧ (bareM m 5 = true → m.tb = 0 ∧ m.tl = 0 ∧ m.tc = 0) ∧ (bareM m 6 = true → m.frm = 0) ∧ (bareM m 7 = true → m.pg = noPage) := by
 simp only [bareM, if_true, show ¬ ((1 : Int) = 0) by decide, show ¬ ((2 : Int) = 0) by decide, show ¬ ((2 : Int) = 1) by decide, show ¬ ((3 : Int) = 0) by decide, show ¬ ((3 : Int) = 1) by decide, show ¬ ((3 : Int) = 2) by decide, show ¬ ((4 : Int) = 0) by decide, show ¬ ((4 : Int) = 1) by decide, show ¬ ((4 : Int) = 2) by decide, show ¬ ((4 : Int) = 3) by decide,
  show ¬ ((5 : Int) = 0) by decide, show ¬ ((5 : Int) = 1) by decide, show ¬ ((5 : Int) = 2) by decide, show ¬ ((5 : Int) = 3) by decide, show ¬ ((5 : Int) = 4) by decide, show ¬ ((6 : Int) = 0) by decide, show ¬ ((6 : Int) = 1) by decide, show ¬ ((6 : Int) = 2) by decide, show ¬ ((6 : Int) = 3) by decide, show ¬ ((6 : Int) = 4) by decide, show ¬ ((6 : Int) = 5) by decide,
  show ¬ ((7 : Int) = 0) by decide, show ¬ ((7 : Int) = 1) by decide, show ¬ ((7 : Int) = 2) by decide, show ¬ ((7 : Int) = 3) by decide, show ¬ ((7 : Int) = 4) by decide, show ¬ ((7 : Int) = 5) by decide, show ¬ ((7 : Int) = 6) by decide, if_false, beq_iff_eq, Bool.and_eq_true, List.isEmpty_iff, sameI_iff, sameG_iff, Bool.not_eq_true', imp_self, and_self]
/-- what may be is what its parts say -/
theorem mayM_fold {m : PMs} (h : mayM m = true) : (partsL m.kind).foldl (putP m) { noMs with kind := m.kind } = m := by
 have h8 := fun p hp => mayM_ok h p hp
 have hk := (mayM_parts h).1
 obtain ⟨b0, b1, b2, b3, b4, b5, b6, b7⟩ := @bare_eqs m
 obtain ⟨kind, pub, ver, there, ps, it, tb, tl, tc, frm, pg⟩ := m
 simp only at hk b0 b1 b2 b3 b4 b5 b6 b7
 have q := fun p hp (hn : ((p : Nat) : Int) ∉ partsL kind) => (by have := h8 p hp; unfold partOk at this; rwa [if_neg hn] at this)
 clear h8 h
 obtain rfl | rfl | rfl | rfl | rfl | rfl : kind = 1 ∨ kind = 2 ∨ kind = 3 ∨ kind = 4 ∨ kind = 5 ∨ kind = 6 := by omega
 ·have := b4 (q 4 (by decide) (by decide)); have := b5 (q 5 (by decide) (by decide)); have := b6 (q 6 (by decide) (by decide)); have := b7 (q 7 (by decide) (by decide))
  simp_all [partsL, putP, noMs]
 ·have := b0 (q 0 (by decide) (by decide)); have := b1 (q 1 (by decide) (by decide)); have := b2 (q 2 (by decide) (by decide)); have := b4 (q 4 (by decide) (by decide)); have := b5 (q 5 (by decide) (by decide)); have := b6 (q 6 (by decide) (by decide)); have := b7 (q 7 (by decide) (by decide))
  simp_all [partsL, putP, noMs]
 ·have := b0 (q 0 (by decide) (by decide)); have := b1 (q 1 (by decide) (by decide)); have := b2 (q 2 (by decide) (by decide)); have := b4 (q 4 (by decide) (by decide)); have := b5 (q 5 (by decide) (by decide)); have := b6 (q 6 (by decide) (by decide)); have := b7 (q 7 (by decide) (by decide))
  simp_all [partsL, putP, noMs]
 ·have := b1 (q 1 (by decide) (by decide)); have := b2 (q 2 (by decide) (by decide)); have := b3 (q 3 (by decide) (by decide)); have := b5 (q 5 (by decide) (by decide)); have := b6 (q 6 (by decide) (by decide)); have := b7 (q 7 (by decide) (by decide))
  simp_all [partsL, putP, noMs]
 ·have := b1 (q 1 (by decide) (by decide)); have := b2 (q 2 (by decide) (by decide)); have := b4 (q 4 (by decide) (by decide)); have := b7 (q 7 (by decide) (by decide))
  simp_all [partsL, putP, noMs]
 ·have := b1 (q 1 (by decide) (by decide)); have := b2 (q 2 (by decide) (by decide)); have := b3 (q 3 (by decide) (by decide)); have := b4 (q 4 (by decide) (by decide)); have := b6 (q 6 (by decide) (by decide))
  simp_all [partsL, putP, noMs]
theorem parseM_fwd {m : PMs} (h : mayM m = true) (hg : GM m) (r : List UInt8) : parseM (mForm m ++ r) = some (m, r) := by
 obtain ⟨hk, hr⟩ := mayM_parts h
 have e : ((m.kind.toNat : Nat) : Int) = m.kind := by omega
 unfold parseM mForm
 rw [List.append_assoc, pNum_fwd _ (by show _ ≤ 1099511627777; omega) (by omega)]
 simp only [Option.bind_some, e]
 rw [parts_fwd hg _ { noMs with kind := m.kind } r (fun p hp => ⟨(parts_mem hp).2, hr p hp⟩) rfl]
 ·rw [mayM_fold h]
 ·intro l1 l2 hL
  have hfold := mayM_fold h
  have h8 := mayM_ok h 2 (by decide)
  have b2 := (@bare_eqs m).2.2.1
  unfold partOk at h8
  obtain ⟨kind, pub, ver, there, ps, it, tb, tl, tc, frm, pg⟩ := m
  simp only at hk hL h8 b2 ⊢
  obtain rfl | rfl | rfl | rfl | rfl | rfl : kind = 1 ∨ kind = 2 ∨ kind = 3 ∨ kind = 4 ∨ kind = 5 ∨ kind = 6 := by omega
  ·have : l1 = [0, 1, 2] := by
    rcases l1 with _ | ⟨a, _ | ⟨b, _ | ⟨c, _ | ⟨d, t⟩⟩⟩⟩ <;> simp [partsL] at hL <;> simp_all
   subst this
   simp [putP, noMs]
  ·have : l1 = [] := by
    rcases l1 with _ | ⟨a, t⟩ <;> simp [partsL] at hL <;> simp_all
   subst this
   have := b2 (by simpa [partsL] using h8)
   simp [noMs, this]
  ·have : l1 = [] := by
    rcases l1 with _ | ⟨a, t⟩ <;> simp [partsL] at hL <;> simp_all
   subst this
   have := b2 (by simpa [partsL] using h8)
   simp [noMs, this]
  ·exfalso
   rcases l1 with _ | ⟨a, _ | ⟨b, t⟩⟩ <;> simp [partsL] at hL
  ·have : l1 = [5, 0] := by
    rcases l1 with _ | ⟨a, _ | ⟨b, _ | ⟨c, _ | ⟨d, t⟩⟩⟩⟩ <;> simp [partsL] at hL <;> simp_all
   subst this
   have := b2 (by simpa [partsL] using h8)
   simp [putP, noMs, this]
  ·exfalso
   rcases l1 with _ | ⟨a, _ | ⟨b, _ | ⟨c, t⟩⟩⟩ <;> simp [partsL] at hL
theorem takeM_some {b : List UInt8} {m : PMs} (h : takeM b = some m) : mayM m = true ∧ mForm m = b := by
 unfold takeM at h
 cases hp : parseM b with
 | none => rw [hp] at h; cases h
 | some x =>
  rw [hp] at h
  simp only [Option.bind_some] at h
  split at h
  ·rename_i hc
   simp only [Option.some.injEq] at h
   rw [Bool.and_eq_true, decide_eq_true_eq] at hc
   rw [← h]; exact hc
  ·cases h
theorem takeM_form {m : PMs} (h : mayM m = true) (hg : GM m) : takeM (mForm m) = some m := by
 have hp := parseM_fwd h hg []
 rw [List.append_nil] at hp
 unfold takeM
 rw [hp]
 simp [h]
/-- forms of two of which the one begins the other are one -/
theorem mForm_pre {m n : PMs} (h : mayM m = true) (hg : GM m) (h' : mayM n = true) (hg' : GM n) {t : List UInt8} (e : mForm m ++ t = mForm n) : t = [] ∧ m = n := by
 have h1 := parseM_fwd h hg t
 have h2 := parseM_fwd h' hg' []
 rw [List.append_nil] at h2
 rw [e, h2] at h1
 simp at h1
 exact ⟨h1.2, h1.1.symm⟩
end Go.Proofs.Ytiednihagnehlaa

namespace Go.Proofs.Ytiednihagnehlaa
open Go.RowKit

theorem zero_fine (w : World) : zeroMs.fine w := (MsO.zero w 0).fine
abbrev rowA : Ms := { zeroMs with kind := 1, pub := 5, ver := 2 }
abbrev rowB (v : Value) : Ms := { zeroMs with kind := 2, pv := v, ps := [hasA (.slice none 0 0)] }
abbrev rowC : Ms := { zeroMs with kind := 5, pub := 7, tb := 3, tl := 1, tc := 9, frm := 4 }
theorem fine_nums {w : World} {m : Ms} (h : m.fine w) (k p t : Int) (a b c d : Nat) (hk : I64 k ∧ I64 p ∧ I64 t) (hu : U64 a ∧ U64 b ∧ U64 c ∧ U64 d) (th : Bool) : ({ m with kind := k, pub := p, tb := t, ver := a, tl := b, tc := c, frm := d, there := th } : Ms).fine w := ⟨h.1, h.2.1, h.2.2.1, hk, hu⟩
theorem rowA_fine (w : World) : rowA.fine w := ⟨(zero_fine w).1, (zero_fine w).2.1, (zero_fine w).2.2.1, by unfold I64; decide, by unfold U64; decide⟩
theorem rowC_fine (w : World) : rowC.fine w := ⟨(zero_fine w).1, (zero_fine w).2.1, (zero_fine w).2.2.1, by unfold I64; decide, by unfold U64; decide⟩
theorem rowB_fine_n (v : Value) : (I64 (rowB v).kind ∧ I64 (rowB v).pub ∧ I64 (rowB v).tb) ∧ (U64 (rowB v).ver ∧ U64 (rowB v).tl ∧ U64 (rowB v).tc ∧ U64 (rowB v).frm) := by
 show (I64 2 ∧ I64 0 ∧ I64 0) ∧ (U64 0 ∧ U64 0 ∧ U64 0 ∧ U64 0)
 unfold I64 U64
 decide
theorem rowA_ok : mayM rowA.plain = true := by decide +kernel
theorem rowB_ok (v : Value) : mayM (rowB v).plain = true := by
 have h : (rowB v).plain = (rowB .nilIface).plain := rfl
 rw [h]
 decide +kernel
theorem rowC_ok : mayM rowC.plain = true := by decide +kernel
theorem rowA_form : mForm rowA.plain = [1, 5, 2, 0] := by
 simp [mForm, Ms.plain, zeroMs, partsL, partForm, form_lt]
theorem rowB_form (v : Value) : mForm (rowB v).plain = [2, 4, 1, 1, 97, 1] := by
 simp [mForm, Ms.plain, zeroMs, partsL, partForm, form_lt, tform, predForm, conForm, Con.plain, ByteArray.size]
theorem rowC_form : mForm rowC.plain = [5, 3, 1, 9, 7, 1, 0, 4] := by
 simp [mForm, Ms.plain, zeroMs, partsL, partForm, form_lt, tform, predForm]
theorem rowC_take (w : World) : takeM [5, 3, 1, 9, 7, 1, 0, 4] = some rowC.plain := by
 rw [← rowC_form]
 exact takeM_form rowC_ok ⟨w, rowC, rowC_fine w, rfl⟩
theorem bad_take : takeM [1, 5, 2, 2] = none := Option.isNone_iff_eq_none.1 (by decide +kernel)

attribute [-go_sem] loadVar storeVar
end Go.Proofs.Ytiednihagnehlaa

namespace Go.Proofs.Ytiednihagnehlaa
open Go.RowKit Go.Great

attribute [-go_sem] loadVar storeVar
theorem Ms.fine.one {w : World} {m : Ms} (h : m.fine w) : m.cells.toArray.all (·.oneCell') = true := by
 obtain ⟨p1, c1, e1, _, r1⟩ := h.1.1.1.len
 obtain ⟨p2, c2, e2, _, _⟩ := h.2.1.1.len
 obtain ⟨p3, c3, e3, _, _⟩ := h.2.2.1.1.1.len
 obtain ⟨p4, c4, e4, _, _⟩ := h.2.2.1.1.2.2.len
 simp [Ms.cells, e1, e2, e3, e4, Value.oneCell']
/-- a message of either type is read at once -/
theorem load_whole {W : World} {b : Nat} {cs : Array Value} {t ty : TypeId} {fr : Nat × Nat} {d : Array Field} (h : W.heap[b]? = some (.cells cs t fr)) (hn : cs.size = 18) (hu : Try.prog.underlying ty = some (.struct d)) (hi : (Try.prog.info? ty).map (·.size) = some 18) : (loadVar ty ⟨b, 0, none⟩).run Try.prog W = .ok (.agg cs) W :=
 load_sub (o := 0) (fun j v hv => by
  have : cs[j]? = some v := by simpa using hv
  simp [World.cell?, h, this]) hu rfl (by rw [hn]; exact hi)
abbrev RAt (w : World) (mb : Nat) (m : Ms) : Prop := w.heap[mb]? = some (.cells m.cells.toArray 60 (0, 0))
theorem store_msgR {w : World} {mb : Nat} {m : Ms} (h : RAt w mb m) (m' : Ms) (h1 : m'.cells.toArray.all (·.oneCell') = true) : ∃ w', (storeVar 60 ⟨mb, 0, none⟩ (.agg m'.cells.toArray)).run Try.prog w = .ok () w' ∧ RAt w' mb m' ∧ Keeps (fun k => k = mb) w w' :=
 store_cells h _ (by simp [Ms.cells]) (by simp only [Ms.cells, List.size_toArray]; kernel_rfl) h1 (putRange_whole (by simp [Ms.cells]))

set_option maxRecDepth 100000 in
set_option maxHeartbeats 1000000 in
theorem ours_any (m : Ms) (w : World) (h : m.fine w) : Calls Try.prog 17 #[.agg m.cells.toArray] w fun e w' => e = .returned (.agg m.cells.toArray) ∧ Old w w' := by
 have hone := h.one
 obtain ⟨kind, pub, ver, there, pv, ps, ⟨n, tm, key, av, es⟩, tb, tl, tc, frm, ⟨fr, en, iv, its, gv, gs, last⟩⟩ := m
 obtain ⟨p1, c1, e1, _, r1⟩ := h.1.1.1.len
 obtain ⟨p2, c2, e2, _, _⟩ := h.2.1.1.len
 obtain ⟨p3, c3, e3, _, _⟩ := h.2.2.1.1.1.len
 obtain ⟨p4, c4, e4, _, _⟩ := h.2.2.1.1.2.2.len
 simp only at e1 e2 e3 e4
 subst e1 e2 e3 e4
 clear h r1
 obtain ⟨m, hm⟩ : ∃ m : Ms, m = ⟨kind, pub, ver, there, .slice p1 ps.length c1, ps, ⟨n, tm, key, .slice p2 es.length c2, es⟩, tb, tl, tc, frm, ⟨fr, en, .slice p3 its.length c3, its, .slice p4 gs.length c4, gs, last⟩⟩ := ⟨_, rfl⟩
 rw [← hm] at hone ⊢
 have hmc : m.cells.toArray = #[.int .i64 kind, .int .i64 pub, .int .u64 ver, .bool there, .slice p1 ps.length c1, .int .u64 n, .int .u64 tm, .string key, .slice p2 es.length c2, .int .i64 tb, .int .u64 tl, .int .u64 tc, .int .u64 frm, .int .u64 fr, .int .u64 en, .slice p3 its.length c3, .slice p4 gs.length c4, .bool last] := by rw [hm]; rfl
 obtain ⟨W0, hW0⟩ : ∃ W0, (w.alloc (.cells m.cells.toArray 60)).alloc (.cells zeroMs.cells.toArray 43) = W0 := ⟨_, rfl⟩
 have k0 : Old w W0 := by rw [← hW0]; exact ((Keeps.refl _ _).alloc _).alloc _
 obtain ⟨b0, b1⟩ := two_blocks w (.cells m.cells.toArray 60) (.cells zeroMs.cells.toArray 43)
 rw [hW0] at b0 b1
 obtain ⟨W1, hst, b2, kb⟩ := store_msg b1 m hone
 have k1 : Old w W1 := k0.then kb (fun i hi e => by omega)
 have gl := load_whole b2 (by rw [hmc]; rfl) Try.underlying43 (by kernel_rfl)
 rw [hmc] at b0 hW0 hst gl ⊢
 have g0 := blkM b0
 have l5 := load_sub (W := W0) (b := w.heap.size) (o := 5) (cs := #[.int .u64 n, .int .u64 tm, .string key, .slice p2 es.length c2]) (ty := 35) (by
  intro j v hv
  rcases j with _ | _ | _ | _ | _ | j <;> simp at hv
  all_goals (subst hv; first | exact g0.2.2.2.2.2.1 | exact g0.2.2.2.2.2.2.1 | exact g0.2.2.2.2.2.2.2.1 | exact g0.2.2.2.2.2.2.2.2.1)) Try.underlying35 rfl (by kernel_rfl)
 have l9 := load_sub (W := W0) (b := w.heap.size) (o := 9) (cs := #[.int .i64 tb, .int .u64 tl, .int .u64 tc]) (ty := 45) (by
  intro j v hv
  rcases j with _ | _ | _ | _ | _ | j <;> simp at hv
  all_goals (subst hv; first | exact g0.2.2.2.2.2.2.2.2.2.1 | exact g0.2.2.2.2.2.2.2.2.2.2.1 | exact g0.2.2.2.2.2.2.2.2.2.2.2.1)) Try.underlying45 rfl (by kernel_rfl)
 have l13 := load_sub (W := W0) (b := w.heap.size) (o := 13) (cs := #[.int .u64 fr, .int .u64 en, .slice p3 its.length c3, .slice p4 gs.length c4, .bool last]) (ty := 41) (by
  intro j v hv
  rcases j with _ | _ | _ | _ | _ | j <;> simp at hv
  all_goals (subst hv; first | exact g0.2.2.2.2.2.2.2.2.2.2.2.2.2.1 | exact g0.2.2.2.2.2.2.2.2.2.2.2.2.2.2.1 | exact g0.2.2.2.2.2.2.2.2.2.2.2.2.2.2.2.1 | exact g0.2.2.2.2.2.2.2.2.2.2.2.2.2.2.2.2.1 | exact g0.2.2.2.2.2.2.2.2.2.2.2.2.2.2.2.2.2)) Try.underlying41 rfl (by kernel_rfl)
 have q1 : ∀ a W, (loadVar 3 a).run Try.prog W = (load a).run Try.prog W := fun _ _ => by kernel_rfl
 have q2 : ∀ a W, (loadVar 28 a).run Try.prog W = (load a).run Try.prog W := fun _ _ => by kernel_rfl
 have q3 : ∀ a W, (loadVar 4 a).run Try.prog W = (load a).run Try.prog W := fun _ _ => by kernel_rfl
 have q4 : ∀ a W, (loadVar 30 a).run Try.prog W = (load a).run Try.prog W := fun _ _ => by kernel_rfl
 have K := Lib.hid (And.intro k1 gl)
 clear b0 b1 k0 k1 kb gl hm hmc b2 hone
 change (w.alloc (.cells #[.int .i64 kind, .int .i64 pub, .int .u64 ver, .bool there, .slice p1 ps.length c1, .int .u64 n, .int .u64 tm, .string key, .slice p2 es.length c2, .int .i64 tb, .int .u64 tl, .int .u64 tc, .int .u64 frm, .int .u64 fr, .int .u64 en, .slice p3 its.length c3, .slice p4 gs.length c4, .bool last] 60)).alloc (.cells #[.int .i64 0, .int .i64 0, .int .u64 0, .bool false, .slice none 0 0, .int .u64 0, .int .u64 0, .string ⟨#[]⟩, .slice none 0 0, .int .i64 0, .int .u64 0, .int .u64 0, .int .u64 0, .int .u64 0, .int .u64 0, .slice none 0 0, .slice none 0 0, .bool false] 43) = W0 at hW0
 go_enter Try.func17, Try.ntmps17
 go_wp2_with fail
 have gl := K.out.2
 exact bodyPost_ret (by simp [results, Try.results17, go_sem, gl]) rfl ⟨rfl, K.out.1⟩

end Go.Proofs.Ytiednihagnehlaa

namespace Go.Proofs.Ytiednihagnehlaa
open Go.RowKit

/-- a query that waits: its link, its message -/
structure Qy where
 link : Int
 m : Ms
def Qy.cells (x : Qy) : List Value := .int .i64 x.link :: x.m.cells
theorem Qy.len (x : Qy) : x.cells.length = 19 := rfl
abbrev SeesQ (w : World) (v : Value) (l : List Qy) : Prop := SeesR w 19 Qy.cells v l
abbrev OwnsQ (w : World) (B : Nat) (v : Value) (l : List Qy) : Prop := OwnsR w B 87 19 Qy.cells v l
/-- is it of that broker, and of a lesser life? -/
def dropQ (b : Int) (l : Nat) (x : Qy) : Bool := x.m.tb == b && decide (x.m.tl < l)
def linkQ (k : Int) (x : Qy) : Bool := x.link == k
def staleQ (b : Int) (l c : Nat) (x : Qy) : Bool := x.m.tb == b && (decide (l < x.m.tl) || (x.m.tl == l && x.m.tc == c))
abbrev QAt (w : World) (qb : Nat) (x : Qy) : Prop := w.heap[qb]? = some (.cells x.cells.toArray 87 (0, 0))
theorem qat_cells {w : World} {b : Nat} {x : Qy} {t : TypeId} (h : w.heap[b]? = some (.cells x.cells.toArray t (0, 0))) :
  w.cell? ⟨b, 0, none⟩ = some (.int .i64 x.link) ∧ w.cell? ⟨b, 10, none⟩ = some (.int .i64 x.m.tb) ∧ w.cell? ⟨b, 11, none⟩ = some (.int .u64 x.m.tl) ∧ w.cell? ⟨b, 12, none⟩ = some (.int .u64 x.m.tc) := by
 simp [World.cell?, h, Qy.cells, Ms.cells]

set_option maxRecDepth 100000 in
theorem drop1_any (x : Qy) (b : Int) (l c1 c2 : Nat) (w : World) (h1 : w.cell? ⟨c1, 0, none⟩ = some (.int .i64 b)) (h2 : w.cell? ⟨c2, 0, none⟩ = some (.int .u64 l)) :
  Calls Try.prog 43 #[.agg x.cells.toArray, .pointer (some ⟨c1, 0, none⟩), .pointer (some ⟨c2, 0, none⟩)] w fun e w' => e = .returned (.bool (dropQ b l x)) ∧ Old w w' := by
 have o : Old w (w.alloc (.cells x.cells.toArray 87)) := (Keeps.refl _ _).alloc _
 obtain ⟨g0, g1, g2, g3⟩ := qat_cells (heap_alloc_new w (.cells x.cells.toArray 87))
 have e1 := o.cell h1 (fun f => f)
 have e2 := o.cell h2 (fun f => f)
 have O := Lib.hid o
 clear o h1 h2
 unfold dropQ
 cases z : (x.m.tb == b)
 ·go_enter Try.func43, Try.ntmps43
  go_wp2_with fail
  go_ret
  exact ⟨ret_bool (by simp), O.out⟩
 ·go_enter Try.func43, Try.ntmps43
  go_wp2_with fail
  go_ret
  exact ⟨ret_bool (by simp), O.out⟩

set_option maxRecDepth 100000 in
theorem forget1_any (x : Qy) (k : Int) (c1 : Nat) (w : World) (h1 : w.cell? ⟨c1, 0, none⟩ = some (.int .i64 k)) :
  Calls Try.prog 44 #[.agg x.cells.toArray, .pointer (some ⟨c1, 0, none⟩)] w fun e w' => e = .returned (.bool (linkQ k x)) ∧ Old w w' := by
 have o : Old w (w.alloc (.cells x.cells.toArray 87)) := (Keeps.refl _ _).alloc _
 obtain ⟨g0, g1, g2, g3⟩ := qat_cells (heap_alloc_new w (.cells x.cells.toArray 87))
 have e1 := o.cell h1 (fun f => f)
 have O := Lib.hid o
 clear o h1 g1 g2 g3
 unfold linkQ
 go_enter Try.func44, Try.ntmps44
 go_wp2_with fail
 go_ret
 exact ⟨rfl, O.out⟩

theorem nat_beq (a b : Nat) : ((a : Int) == (b : Int)) = (a == b) := by rw [Bool.eq_iff_iff]; simp; omega
set_option maxRecDepth 100000 in
theorem add1_any (x : Qy) (b : Int) (l c c1 : Nat) (w : World) (h1 : w.cell? ⟨c1, 0, none⟩ = some (.int .i64 b) ∧ w.cell? ⟨c1, 1, none⟩ = some (.int .u64 l) ∧ w.cell? ⟨c1, 2, none⟩ = some (.int .u64 c)) :
  Calls Try.prog 27 #[.agg x.cells.toArray, .pointer (some ⟨c1, 0, none⟩)] w fun e w' => e = .returned (.bool (staleQ b l c x)) ∧ Old w w' := by
 have o : Old w (w.alloc (.cells x.cells.toArray 87)) := (Keeps.refl _ _).alloc _
 obtain ⟨g0, g1, g2, g3⟩ := qat_cells (heap_alloc_new w (.cells x.cells.toArray 87))
 have e1 := o.cell h1.1 (fun f => f)
 have e2 := o.cell h1.2.1 (fun f => f)
 have e3 := o.cell h1.2.2 (fun f => f)
 have et := eql_tok x.m.tb b x.m.tl l x.m.tc c
 have O := Lib.hid o
 clear o h1 g0
 unfold staleQ
 cases z : (x.m.tb == b)
 ·go_enter Try.func27, Try.ntmps27
  go_wp2_with fail
  go_ret
  exact ⟨ret_bool (by simp), O.out⟩
 ·obtain ⟨t, ht⟩ : ∃ t, decide (l < x.m.tl) = t := ⟨_, rfl⟩
  have ht' : decide ((x.m.tl : Int) > (l : Int)) = t := by rw [← ht]; simp
  cases t
  ·go_enter Try.func27, Try.ntmps27
   go_wp2_with fail
   go_ret
   exact ⟨ret_bool (by rw [ht]; simp [nat_beq]), O.out⟩
  ·go_enter Try.func27, Try.ntmps27
   go_wp2_with fail
   go_ret
   exact ⟨ret_bool (by rw [ht]; simp), O.out⟩

/-- the place of the first of which something is so -/
def ixQ (pr : Qy → Bool) (l : List Qy) : Int := if l.any pr then ((l.findIdx pr : Nat) : Int) else -1
theorem findIdx_of {pr : Qy → Bool} {l : List Qy} {k : Nat} {x : Qy} (hx : l[k]? = some x) (h1 : pr x = true) (h0 : (l.take k).any pr = false) : l.any pr = true ∧ l.findIdx pr = k := by
 obtain ⟨hk, rfl⟩ := List.getElem?_eq_some_iff.1 hx
 refine ⟨List.any_eq_true.2 ⟨_, List.getElem_mem hk, h1⟩, ?_⟩
 rw [List.findIdx_eq hk]
 refine ⟨h1, fun j hj => ?_⟩
 rw [List.any_eq_false] at h0
 have := h0 l[j] (List.mem_take_iff_getElem.2 ⟨j, by omega, rfl⟩)
 simpa using this
theorem any_take_succ {α : Type} {f : α → Bool} {l : List α} {k : Nat} {x : α} (hx : l[k]? = some x) : (l.take (k + 1)).any f = ((l.take k).any f || f x) := by
 rw [List.take_add_one, hx]
 simp
theorem load_q {w : World} {b o : Nat} {x : Qy} (h : ∀ i u, x.cells[i]? = some u → w.cell? ⟨b, o + i, none⟩ = some u) : (loadVar 87 ⟨b, o, none⟩).run Try.prog w = .ok (.agg x.cells.toArray) w :=
 load_sub (cs := x.cells.toArray) (fun j v hv => h j v (by simpa using hv)) Try.underlying87 rfl (by kernel_rfl)

attribute [-go_sem] loadVar
set_option maxRecDepth 100000 in
theorem index_q (g : FuncId) (cap : Array Value) (pr : Qy → Bool) (v : Value) (l : List Qy) (w : World) (h : SeesQ w v l)
  (hent : ∀ (args : Array Value) (w : World), (callFunc g args).run Try.prog w = .ok (.enter g args) w)
  (hc : ∀ x ∈ l, ∀ W, Old w W → Calls Try.prog g (#[.agg x.cells.toArray] ++ cap) W fun e W' => e = .returned (.bool (pr x)) ∧ Old W W') :
  Calls Try.prog 48 #[v, .func (.func g) #[] cap] w fun e w' => e = .returned (.int .i64 (ixQ pr l)) ∧ Old w w' := by
 by_cases hl : 0 < l.length
 ·obtain ⟨b, o, c, rfl, h1, h2, hcell⟩ := h.at hl
  have hm : l.length ≤ 9223372036854775807 := by unfold maxLen at h2; omega
  have HC := Lib.hid hcell
  have HK := Lib.hid hc
  have HE := Lib.hid hent
  clear h1 h2 h hcell hl hc hent
  go_enter Try.func48, Try.ntmps48
  go_wp2_with fail
  go_loopw [8] (fun v8 wr => ∃ k : Nat, k ≤ l.length ∧ v8 = .int .i64 k ∧ (l.take k).any pr = false ∧ Old w wr) (fun v8 _ => l.length - (intOf v8).toNat)
  case atStart => exact ⟨0, by omega, rfl, by simp, Keeps.refl _ _⟩
  case round =>
   obtain ⟨k, hk, rfl, hr, hkw⟩ := hrel
   have HR := Lib.hid hr
   clear hr
   by_cases hlt : k < l.length
   ·have hx : l[k]? = some l[k] := List.getElem?_eq_getElem hlt
    generalize l[k] = x at hx
    have lq := load_q (w := wr) (b := b) (o := o + k * 19) (x := x) (fun i u hu => hkw.cell (HC.out k x hx i u hu) (fun f => f))
    have N := HK.out x (List.mem_of_getElem? hx) wr hkw
    have he := HE.out (#[.agg x.cells.toArray] ++ cap)
    have HX := Lib.hid (And.intro hx hkw)
    clear hx hkw
    cases hg : pr x
    ·rw [hg] at N
     have HN := Lib.hid N
     have HG := Lib.hid hg
     clear N hg
     go_wp2_with fail
     refine HN.out.mono ?_
     rintro e w1 ⟨rfl, hk1⟩
     have K1 := Lib.hid (HX.out.2.trans hk1)
     clear hk1
     go_wp2_with fail
     go_roundw
     case rel => exact ⟨k + 1, by omega, by go_num, by rw [any_take_succ HX.out.1, HR.out, HG.out]; rfl, K1.out⟩
     case measure => simp [intOf]; omega
    ·rw [hg] at N
     have HN := Lib.hid N
     have HG := Lib.hid hg
     clear N hg
     go_wp2_with fail
     refine HN.out.mono ?_
     rintro e w1 ⟨rfl, hk1⟩
     have K1 := Lib.hid (HX.out.2.trans hk1)
     clear hk1
     go_wp2_with fail
     go_ret
     refine ⟨?_, K1.out⟩
     have := findIdx_of HX.out.1 HG.out HR.out
     unfold ixQ
     rw [if_pos this.1, this.2]
     rfl
   ·have K1 := Lib.hid hkw
    clear hkw
    go_wp2_with fail
    go_ret
    refine ⟨?_, K1.out⟩
    have := HR.out
    rw [List.take_of_length_le (by omega)] at this
    unfold ixQ
    rw [this]
    rfl
 ·obtain ⟨rfl, p, c, rfl⟩ := h.at0 (by omega)
  clear h hl hc hent
  go_enter Try.func48, Try.ntmps48
  go_wp2_with fail
  go_loopw [8] (fun v8 wr => v8 = .int .i64 0 ∧ Old w wr) (fun _ _ => 0)
  case atStart => exact ⟨rfl, Keeps.refl _ _⟩
  case round =>
   obtain ⟨rfl, hkw⟩ := hrel
   have K1 := Lib.hid hkw
   clear hkw
   go_wp2_with fail
   go_ret
   exact ⟨rfl, K1.out⟩
theorem contains_q (g : FuncId) (cap : Array Value) (pr : Qy → Bool) (v : Value) (l : List Qy) (w : World) (h : SeesQ w v l)
  (hent : ∀ (args : Array Value) (w : World), (callFunc g args).run Try.prog w = .ok (.enter g args) w)
  (hc : ∀ x ∈ l, ∀ W, Old w W → Calls Try.prog g (#[.agg x.cells.toArray] ++ cap) W fun e W' => e = .returned (.bool (pr x)) ∧ Old W W') :
  Calls Try.prog 29 #[v, .func (.func g) #[] cap] w fun e w' => e = .returned (.bool (l.any pr)) ∧ Old w w' := by
 obtain ⟨p, c, rfl, h1, h2⟩ := h.len
 have C := Lib.hid (index_q g cap pr _ l w h hent hc)
 have HI : decide (ixQ pr l ≥ 0) = l.any pr := by
  unfold ixQ
  cases l.any pr
  ·rfl
  ·simp
 obtain ⟨z, hz⟩ : ∃ z, ixQ pr l = z := ⟨_, rfl⟩
 rw [hz] at C HI
 have HJ := Lib.hid HI
 clear h h1 h2 hc HI hent hz
 go_enter Try.func29, Try.ntmps29
 go_wp2_with fail
 refine C.out.mono ?_
 rintro e w' ⟨rfl, hk⟩
 have K := Lib.hid hk
 clear hk
 go_wp2_with fail
 go_ret
 exact ⟨ret_bool HJ.out, K.out⟩
end Go.Proofs.Ytiednihagnehlaa
