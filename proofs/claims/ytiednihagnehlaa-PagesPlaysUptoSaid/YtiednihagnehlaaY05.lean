/- DERIVED. Plain: reading of forms (layer 7): numbers, texts, values, events; what is read, laid, is what went. · DERIVED. The contracts of codec's reader: must, num, text. · DERIVED. The contract of codec's reader: value. · DERIVED. The contract of codec.times. · DERIVED. Appending rows of several cells. · DERIVED. The contract of codec's reader: event. · DERIVED. Predicates: what may be (layer 4), the program's answer. -/
import Derived.Test.YtiednihagnehlaaY04
import Derived.Test.YtiednihagnehlaaY02
import Derived.Test.YtiednihagnehlaaY01
import Derived.Maps.AppendAt
import Derived.Test.YtiednihagnehlaaY03
namespace Go.Proofs.Ytiednihagnehlaa

def pNum (most : Nat) (l : List UInt8) : Option (Nat × List UInt8) := if (readNum l most).2.1 = 0 then some ((readNum l most).1, (readNum l most).2.2) else none
def pInt (l : List UInt8) : Option (Int × List UInt8) := if (readInt l).2.1 = 0 then some ((readInt l).1, (readInt l).2.2) else none
def pText (most : Nat) (l : List UInt8) : Option (ByteArray × List UInt8) := if (readBytes l most).2.1 = 0 then some (⟨(readBytes l most).1.toArray⟩, (readBytes l most).2.2) else none
def pVal (l : List UInt8) : Option (Val × List UInt8) := (pNum 3 l).bind fun x =>
 if x.1 = 1 then (pInt x.2).map fun y => (⟨1, y.1, ⟨#[]⟩, false⟩, y.2)
 else if x.1 = 2 then (pText 32 x.2).map fun y => (⟨2, 0, y.1, false⟩, y.2)
 else if x.1 = 3 then (pNum 1 x.2).map fun y => (⟨3, 0, ⟨#[]⟩, y.1 == 1⟩, y.2)
 else some (⟨x.1, 0, ⟨#[]⟩, false⟩, x.2)
def pAt (l : List UInt8) : Option (At × List UInt8) := (pText 16 l).bind fun x => (pVal x.2).map fun y => (⟨x.1, y.1⟩, y.2)
/-- n times one thing, laid behind what is there -/
def pMany {α : Type} (p : List UInt8 → Option (α × List UInt8)) : Nat → List α → List UInt8 → Option (List α × List UInt8)
 | 0, s, l => some (s, l)
 | n + 1, s, l => (p l).bind fun x => pMany p n (s ++ [x.1]) x.2
def pList {α : Type} (most : Nat) (p : List UInt8 → Option (α × List UInt8)) (l : List UInt8) : Option (List α × List UInt8) := (pNum most l).bind fun x => pMany p x.1 [] x.2
def pEvent (l : List UInt8) : Option ((ByteArray × List At) × List UInt8) := (pText 16 l).bind fun x => (pList 8 pAt x.2).map fun y => ((x.1, y.1), y.2)

theorem pNum_some {most : Nat} {l r : List UInt8} {n : Nat} : pNum most l = some (n, r) ↔ readNum l most = (n, 0, r) := by
 unfold pNum
 constructor
 ·intro h
  split at h
  ·rename_i h0
   simp only [Option.some.injEq, Prod.mk.injEq] at h
   rw [← h.1, ← h.2]
   exact Prod.ext rfl (Prod.ext h0 rfl)
  ·cases h
 ·intro h; rw [h]; simp
theorem pNum_none {most : Nat} {l : List UInt8} : pNum most l = none ↔ (readNum l most).2.1 ≠ 0 := by
 unfold pNum; split <;> simp_all
theorem pNum_inv {most : Nat} {l r : List UInt8} {n : Nat} (h : pNum most l = some (n, r)) : l = form n ++ r ∧ n ≤ most ∧ n < 18446744073709551616 := read_form (pNum_some.1 h)
theorem pNum_fwd {most n : Nat} (r : List UInt8) (h : n ≤ most) (h2 : n < 18446744073709551616) : pNum most (form n ++ r) = some (n, r) := by
 rw [pNum_some, form_read n r most h2, if_neg (by omega)]
theorem pInt_eq (l : List UInt8) : pInt l = if (readNum l 18446744073709551615).2.1 = 0 then some (zagZ (readNum l 18446744073709551615).1, (readNum l 18446744073709551615).2.2) else none := by
 unfold pInt readInt
 by_cases h : (readNum l 18446744073709551615).2.1 = 0
 ·simp [h]
 ·simp [h]
theorem pInt_inv {l r : List UInt8} {n : Int} (h : pInt l = some (n, r)) : l = form (zigN n) ++ r ∧ -9223372036854775808 ≤ n ∧ n ≤ 9223372036854775807 := by
 rw [pInt_eq] at h
 split at h
 ·rename_i h0
  simp only [Option.some.injEq, Prod.mk.injEq] at h
  have hr := read_form (l := l) (r := (readNum l 18446744073709551615).2.2) (most := 18446744073709551615) (n := (readNum l 18446744073709551615).1) (Prod.ext rfl (Prod.ext h0 rfl))
  refine ⟨?_, ?_⟩
  ·rw [← h.1, zig_zag, ← h.2]; exact hr.1
  ·rw [← h.1]; exact zagZ_range hr.2.2
 ·cases h
theorem pInt_fwd {n : Int} (r : List UInt8) (h : -9223372036854775808 ≤ n ∧ n ≤ 9223372036854775807) : pInt (form (zigN n) ++ r) = some (n, r) := by
 have hz := zigN_lt h
 have hr := form_read (zigN n) r 18446744073709551615 hz
 rw [if_neg (by omega)] at hr
 rw [pInt_eq, hr]
 simp [zag_zig]
theorem arr_toList (l : List UInt8) : (⟨l.toArray⟩ : ByteArray).toList = l := by rw [ByteArray.toList_eq]
theorem arr_size (l : List UInt8) : (⟨l.toArray⟩ : ByteArray).size = l.length := by simp [ByteArray.size]
theorem toList_arr (s : ByteArray) : (⟨s.toList.toArray⟩ : ByteArray) = s := by rw [ByteArray.toList_eq]
theorem pText_inv {most : Nat} {l r : List UInt8} {s : ByteArray} (hm : most < 9223372036854775808) (h : pText most l = some (s, r)) : l = form s.size ++ s.toList ++ r ∧ s.size ≤ most := by
 unfold pText at h
 split at h
 ·rename_i h0
  simp only [Option.some.injEq, Prod.mk.injEq] at h
  obtain ⟨hs, hr⟩ := h
  unfold readBytes at h0 hs hr
  rw [if_neg (by omega)] at h0 hs hr
  rw [Int.toNat_natCast] at h0 hs hr
  by_cases e1 : (readNum l most).2.1 = 0
  ·rw [if_neg (by simpa using e1)] at h0 hs hr
   by_cases e2 : (readNum l most).2.2.length < (readNum l most).1
   ·rw [if_pos e2] at h0; simp at h0
   ·rw [if_neg e2] at h0 hs hr
    have hf := read_form (l := l) (most := most) (n := (readNum l most).1) (r := (readNum l most).2.2) (Prod.ext rfl (Prod.ext e1 rfl))
    have hsz : s.size = (readNum l most).1 := by rw [← hs, arr_size, List.length_take]; omega
    refine ⟨?_, by omega⟩
    rw [hsz, ← hs, arr_toList, ← hr, List.append_assoc, List.take_append_drop]
    exact hf.1
  ·rw [if_pos (by simpa using e1)] at h0; simp at h0; exact absurd h0 e1
 ·cases h
theorem pText_fwd {most : Nat} {s : ByteArray} (r : List UInt8) (h : s.size ≤ most) (hm : most < 9223372036854775808) : pText most (form s.size ++ s.toList ++ r) = some (s, r) := by
 have hr : readNum (form s.size ++ s.toList ++ r) most = (s.size, 0, s.toList ++ r) := by rw [List.append_assoc, form_read _ _ _ (by omega), if_neg (by omega)]
 have hl : s.toList.length = s.size := size_toList s
 have hb : readBytes (form s.size ++ s.toList ++ r) (most : Int) = (s.toList, 0, r) := by
  unfold readBytes
  rw [if_neg (by omega), Int.toNat_natCast, hr]
  simp only [ne_eq, not_true_eq_false, if_false]
  rw [if_neg (by simp; omega)]
  simp [← hl]
 unfold pText
 rw [hb]
 simp [toList_arr]

theorem Val.kinds {v : Val} (hv : v.ok = true) : v.kind = 1 ∨ v.kind = 2 ∨ v.kind = 3 := by
 unfold Val.ok at hv
 by_cases h1 : v.kind = 1
 ·exact .inl h1
 ·by_cases h2 : v.kind = 2
  ·exact .inr (.inl h2)
  ·simp [h1, h2] at hv; exact .inr (.inr hv.1.1)
theorem empty_arr {s : ByteArray} (h : s.toList.isEmpty = true) : s = ⟨#[]⟩ := by
 rw [← toList_arr s, List.isEmpty_iff.1 h]
/-- numbers within their kind -/
def VFits (v : Val) : Prop := -9223372036854775808 ≤ v.num ∧ v.num ≤ 9223372036854775807
theorem pVal_inv {l r : List UInt8} {v : Val} (h : pVal l = some (v, r)) : VFits v ∧ 0 ≤ v.kind ∧ v.kind ≤ 3 ∧ v.str.size ≤ 32 ∧ (v.ok = true → l = valForm v ++ r) := by
 unfold pVal at h
 cases hk : pNum 3 l with
 | none => rw [hk] at h; cases h
 | some x =>
  obtain ⟨k, r1⟩ := x
  obtain ⟨hl, hk3, _⟩ := pNum_inv hk
  rw [hk] at h
  simp only [Option.bind_some] at h
  by_cases h1 : k = 1
  ·rw [if_pos h1] at h
   cases hi : pInt r1 with
   | none => rw [hi] at h; cases h
   | some y =>
    obtain ⟨n, r2⟩ := y
    rw [hi] at h
    simp only [Option.map_some, Option.some.injEq, Prod.mk.injEq] at h
    obtain ⟨rfl, rfl⟩ := h
    obtain ⟨e1, e2⟩ := pInt_inv hi
    refine ⟨e2, by simp, by simp, by simp [ByteArray.size], fun _ => ?_⟩
    rw [hl, e1, h1]; simp [valForm]
  ·rw [if_neg h1] at h
   by_cases h2 : k = 2
   ·rw [if_pos h2] at h
    cases hi : pText 32 r1 with
    | none => rw [hi] at h; cases h
    | some y =>
     obtain ⟨n, r2⟩ := y
     rw [hi] at h
     simp only [Option.map_some, Option.some.injEq, Prod.mk.injEq] at h
     obtain ⟨rfl, rfl⟩ := h
     obtain ⟨e1, e2⟩ := pText_inv (by decide) hi
     refine ⟨⟨by simp, by simp⟩, by simp, by simp, e2, fun _ => ?_⟩
     rw [hl, e1, h2]; simp [valForm]
   ·rw [if_neg h2] at h
    by_cases h3 : k = 3
    ·rw [if_pos h3] at h
     cases hi : pNum 1 r1 with
     | none => rw [hi] at h; cases h
     | some y =>
      obtain ⟨n, r2⟩ := y
      rw [hi] at h
      simp only [Option.map_some, Option.some.injEq, Prod.mk.injEq] at h
      obtain ⟨rfl, rfl⟩ := h
      obtain ⟨e1, e2, _⟩ := pNum_inv hi
      refine ⟨⟨by simp, by simp⟩, by simp, by simp, by simp [ByteArray.size], fun _ => ?_⟩
      rw [hl, e1, h3]
      have : n = 0 ∨ n = 1 := by omega
      rcases this with rfl | rfl <;> simp [valForm]
    ·rw [if_neg h3] at h
     simp only [Option.some.injEq, Prod.mk.injEq] at h
     obtain ⟨rfl, rfl⟩ := h
     refine ⟨⟨by simp, by simp⟩, by simp, by simp; omega, by simp [ByteArray.size], fun hv => ?_⟩
     have := Val.kinds hv
     simp only at this
     omega
theorem pVal_fwd {v : Val} (r : List UInt8) (hv : v.ok = true) (hf : VFits v) : pVal (valForm v ++ r) = some (v, r) := by
 have hk := Val.kinds hv
 obtain ⟨k, n, s, b⟩ := v
 unfold Val.ok at hv
 unfold VFits at hf
 simp only at hv hf hk
 unfold pVal valForm
 rcases hk with rfl | rfl | rfl
 ·simp at hv
  obtain ⟨hs, rfl⟩ := hv
  obtain rfl := empty_arr (by simpa using hs)
  simp only [if_pos]
  rw [List.append_assoc, pNum_fwd _ (by decide) (by decide)]
  simp [pInt_fwd r hf]
 ·simp at hv
  obtain ⟨⟨h1, rfl⟩, rfl⟩ := hv
  simp only [show ¬ ((2 : Int) = 1) from by decide, if_false, if_pos]
  rw [List.append_assoc, List.append_assoc, pNum_fwd _ (by decide) (by decide)]
  have := pText_fwd (most := 32) (s := s) r h1 (by decide)
  rw [List.append_assoc] at this
  simp [this]
 ·simp at hv
  obtain ⟨rfl, hs⟩ := hv
  obtain rfl := empty_arr (by simpa using hs)
  simp only [show ¬ ((3 : Int) = 1) from by decide, show ¬ ((3 : Int) = 2) from by decide, if_false]
  rw [List.append_assoc, pNum_fwd _ (by decide) (by decide)]
  have := pNum_fwd (most := 1) (n := if b then 1 else 0) r (by split <;> decide) (by split <;> decide)
  simp only [Option.bind_some, show ¬ (3 = 1) from by decide, show ¬ (3 = 2) from by decide, if_false, if_pos]
  rw [this]
  cases b <;> simp

theorem pAt_inv {l r : List UInt8} {a : At} (h : pAt l = some (a, r)) : VFits a.val ∧ a.name.size ≤ 16 ∧ (a.val.ok = true → l = atForm a ++ r) := by
 unfold pAt at h
 cases hk : pText 16 l with
 | none => rw [hk] at h; cases h
 | some x =>
  obtain ⟨s, r1⟩ := x
  obtain ⟨hl, hs⟩ := pText_inv (by decide) hk
  rw [hk] at h
  simp only [Option.bind_some] at h
  cases hi : pVal r1 with
  | none => rw [hi] at h; cases h
  | some y =>
   obtain ⟨v, r2⟩ := y
   rw [hi] at h
   simp only [Option.map_some, Option.some.injEq, Prod.mk.injEq] at h
   obtain ⟨rfl, rfl⟩ := h
   obtain ⟨e1, _, _, _, e2⟩ := pVal_inv hi
   exact ⟨e1, hs, fun hv => by rw [hl, e2 hv]; simp [atForm]⟩
theorem pAt_fwd {a : At} (r : List UInt8) (hn : a.name.size ≤ 16) (hv : a.val.ok = true) (hf : VFits a.val) : pAt (atForm a ++ r) = some (a, r) := by
 unfold pAt atForm
 have h1 := pText_fwd (most := 16) (s := a.name) (valForm a.val ++ r) hn (by decide)
 rw [show form a.name.size ++ a.name.toList ++ valForm a.val ++ r = form a.name.size ++ a.name.toList ++ (valForm a.val ++ r) from by simp, h1]
 simp [pVal_fwd r hv hf]

section
variable {α : Type} {p : List UInt8 → Option (α × List UInt8)} {f : α → List UInt8} {ok : α → Prop} {good : α → Prop}
/-- what was read, laid, is what went: many things -/
theorem pMany_inv (hp : ∀ l x r, p l = some (x, r) → good x ∧ (ok x → l = f x ++ r)) : ∀ n s l t r, pMany p n s l = some (t, r) → ∃ u, t = s ++ u ∧ u.length = n ∧ (∀ x ∈ u, good x) ∧ ((∀ x ∈ u, ok x) → l = u.flatMap f ++ r)
 | 0, s, l, t, r, h => by
  simp only [pMany, Option.some.injEq, Prod.mk.injEq] at h
  exact ⟨[], by simp [h.1], rfl, (fun x hx => by cases hx), fun _ => by simp [h.2]⟩
 | n + 1, s, l, t, r, h => by
  rw [pMany] at h
  cases hx : p l with
  | none => rw [hx] at h; cases h
  | some x =>
   obtain ⟨x, r1⟩ := x
   rw [hx] at h
   simp only [Option.bind_some] at h
   obtain ⟨u, h1, h2, h3, h4⟩ := pMany_inv hp n (s ++ [x]) r1 t r h
   obtain ⟨g, hf⟩ := hp l x r1 hx
   refine ⟨x :: u, by rw [h1]; simp, by simp [h2], fun y hy => ?_, fun ho => ?_⟩
   ·rcases List.mem_cons.1 hy with rfl | hy
    ·exact g
    ·exact h3 y hy
   ·rw [hf (ho x (by simp)), h4 (fun y hy => ho y (by simp [hy]))]; simp
theorem pMany_fwd (u : List α) (hp : ∀ x ∈ u, ∀ r, p (f x ++ r) = some (x, r)) : ∀ s r, pMany p u.length s (u.flatMap f ++ r) = some (s ++ u, r) := by
 induction u with
 | nil => intro s r; simp [pMany]
 | cons x u ih =>
  intro s r
  rw [List.length_cons, pMany, List.flatMap_cons, List.append_assoc, hp x (by simp)]
  simp only [Option.bind_some]
  rw [ih (fun y hy => hp y (by simp [hy]))]
  simp
theorem pList_inv {most : Nat} (hp : ∀ l x r, p l = some (x, r) → good x ∧ (ok x → l = f x ++ r)) {l r : List UInt8} {u : List α} (h : pList most p l = some (u, r)) : u.length ≤ most ∧ (∀ x ∈ u, good x) ∧ ((∀ x ∈ u, ok x) → l = form u.length ++ u.flatMap f ++ r) := by
 unfold pList at h
 cases hk : pNum most l with
 | none => rw [hk] at h; cases h
 | some x =>
  obtain ⟨n, r1⟩ := x
  obtain ⟨hl, hn, _⟩ := pNum_inv hk
  rw [hk] at h
  simp only [Option.bind_some] at h
  obtain ⟨u', h1, h2, h3, h4⟩ := pMany_inv hp n [] r1 u r h
  obtain rfl : u = u' := by simpa using h1
  exact ⟨by omega, h3, fun ho => by rw [hl, h4 ho, h2]; simp⟩
theorem pList_fwd {most : Nat} (u : List α) (hm : u.length ≤ most) (h64 : u.length < 18446744073709551616) (hp : ∀ x ∈ u, ∀ r, p (f x ++ r) = some (x, r)) (r : List UInt8) : pList most p (form u.length ++ u.flatMap f ++ r) = some (u, r) := by
 unfold pList
 rw [List.append_assoc, pNum_fwd _ hm h64]
 simp only [Option.bind_some]
 rw [pMany_fwd u hp]
 simp
end

theorem attrsOk_mem {l : List At} (h : attrsOk l = true) {a : At} (ha : a ∈ l) : nameOk a.name.toList = true ∧ a.val.ok = true := by
 obtain ⟨i, hi, rfl⟩ := List.getElem_of_mem ha
 exact attrsOk_at h (List.getElem?_eq_getElem hi)
theorem evOk_parts {key : ByteArray} {l : List At} (h : evOk key l = true) : key.size ≤ 16 ∧ l.length ≤ 8 ∧ attrsOk l = true := by
 unfold evOk at h; simp at h; exact ⟨h.1.1, h.1.2, h.2⟩
theorem pEvent_inv {l r : List UInt8} {key : ByteArray} {es : List At} (h : pEvent l = some ((key, es), r)) : key.size ≤ 16 ∧ es.length ≤ 8 ∧ Fits es ∧ (evOk key es = true → l = evForm key es ++ r) := by
 unfold pEvent at h
 cases hk : pText 16 l with
 | none => rw [hk] at h; cases h
 | some x =>
  obtain ⟨s, r1⟩ := x
  obtain ⟨hl, hs⟩ := pText_inv (by decide) hk
  rw [hk] at h
  simp only [Option.bind_some] at h
  cases hi : pList 8 pAt r1 with
  | none => rw [hi] at h; cases h
  | some y =>
   obtain ⟨u, r2⟩ := y
   rw [hi] at h
   simp only [Option.map_some, Option.some.injEq, Prod.mk.injEq] at h
   obtain ⟨⟨rfl, rfl⟩, rfl⟩ := h
   obtain ⟨e1, e2, e3⟩ := pList_inv (f := atForm) (ok := fun a => a.val.ok = true) (good := fun a => VFits a.val ∧ a.name.size ≤ 16) (fun l x r h => ⟨⟨(pAt_inv h).1, (pAt_inv h).2.1⟩, (pAt_inv h).2.2⟩) hi
   refine ⟨hs, e1, fun a ha => ⟨by have := (e2 a ha).2; omega, (e2 a ha).1⟩, fun hok => ?_⟩
   rw [hl, e3 (fun a ha => (attrsOk_mem (evOk_parts hok).2.2 ha).2)]
   simp [evForm]
theorem pEvent_fwd {key : ByteArray} {es : List At} (r : List UInt8) (hok : evOk key es = true) (hf : Fits es) : pEvent (evForm key es ++ r) = some ((key, es), r) := by
 obtain ⟨h1, h2, h3⟩ := evOk_parts hok
 unfold pEvent evForm
 rw [show form key.size ++ key.toList ++ form es.length ++ es.flatMap atForm ++ r = form key.size ++ key.toList ++ (form es.length ++ es.flatMap atForm ++ r) from by simp, pText_fwd _ h1 (by decide)]
 simp only [Option.bind_some]
 rw [pList_fwd es h2 (by omega) (fun a ha r => pAt_fwd r (nameOk_size (attrsOk_mem h3 ha).1) (attrsOk_mem h3 ha).2 (hf a ha).2)]
 simp
end Go.Proofs.Ytiednihagnehlaa

namespace Go.Proofs.Ytiednihagnehlaa
open Go.RowKit

abbrev rdV (rb : Nat) : Value := .agg #[.pointer (some ⟨rb, 0, none⟩)]
abbrev RK (rb : Nat) (w w' : World) : Prop := Keeps (fun k => k = rb) w w'

theorem pText_some {most : Nat} {l r : List UInt8} {s : ByteArray} (h : pText most l = some (s, r)) : readBytes l (most : Int) = (s.toList, 0, r) := by
 unfold pText at h
 split at h
 ·rename_i h0
  simp only [Option.some.injEq, Prod.mk.injEq] at h
  rw [← h.1, ← h.2, arr_toList]
  exact Prod.ext rfl (Prod.ext h0 rfl)
 ·cases h
theorem pText_none {most : Nat} {l : List UInt8} (h : pText most l = none) : (readBytes l (most : Int)).2.1 ≠ 0 := by
 unfold pText at h; split at h
 ·cases h
 ·assumption
end Go.Proofs.Ytiednihagnehlaa

namespace Go.Proofs.Ytiednihagnehlaa
open Go.RowKit

theorem blk1 {w : World} {b : Nat} {t : TypeId} {a0 : Value} (h : w.heap[b]? = some (.cells #[a0] t (0, 0))) : w.cell? ⟨b, 0, none⟩ = some a0 ∧ w.frozen? ⟨b, 0, none⟩ = false := by simp [World.cell?, World.frozen?, h]
theorem blk4 {w : World} {b : Nat} {t : TypeId} {a0 a1 a2 a3 : Value} (h : w.heap[b]? = some (.cells #[a0, a1, a2, a3] t (0, 0))) :
  (w.cell? ⟨b, 0, none⟩ = some a0 ∧ w.cell? ⟨b, 1, none⟩ = some a1 ∧ w.cell? ⟨b, 2, none⟩ = some a2 ∧ w.cell? ⟨b, 3, none⟩ = some a3) ∧
  (w.frozen? ⟨b, 0, none⟩ = false ∧ w.frozen? ⟨b, 1, none⟩ = false ∧ w.frozen? ⟨b, 2, none⟩ = false ∧ w.frozen? ⟨b, 3, none⟩ = false) := by simp [World.cell?, World.frozen?, h]

theorem pVal_cases {l r : List UInt8} {v : Val} (h : pVal l = some (v, r)) : ∃ k r1, pNum 3 l = some (k, r1) ∧
  ((k = 1 ∧ ∃ n, pInt r1 = some (n, r) ∧ v = ⟨1, n, ⟨#[]⟩, false⟩) ∨ (k = 2 ∧ ∃ s, pText 32 r1 = some (s, r) ∧ v = ⟨2, 0, s, false⟩) ∨ (k = 3 ∧ ∃ n, pNum 1 r1 = some (n, r) ∧ v = ⟨3, 0, ⟨#[]⟩, n == 1⟩) ∨ (k = 0 ∧ r = r1 ∧ v = ⟨0, 0, ⟨#[]⟩, false⟩)) := by
 unfold pVal at h
 cases hk : pNum 3 l with
 | none => rw [hk] at h; cases h
 | some x =>
  obtain ⟨k, r1⟩ := x
  have hb := (pNum_inv hk).2.1
  rw [hk] at h
  simp only [Option.bind_some] at h
  refine ⟨k, r1, rfl, ?_⟩
  by_cases h1 : k = 1
  ·rw [if_pos h1] at h
   cases hi : pInt r1 with
   | none => rw [hi] at h; cases h
   | some y =>
    rw [hi] at h
    simp only [Option.map_some, Option.some.injEq, Prod.mk.injEq] at h
    exact .inl ⟨h1, y.1, by rw [← h.2], h.1.symm⟩
  ·rw [if_neg h1] at h
   by_cases h2 : k = 2
   ·rw [if_pos h2] at h
    cases hi : pText 32 r1 with
    | none => rw [hi] at h; cases h
    | some y =>
     rw [hi] at h
     simp only [Option.map_some, Option.some.injEq, Prod.mk.injEq] at h
     exact .inr (.inl ⟨h2, y.1, by rw [← h.2], h.1.symm⟩)
   ·rw [if_neg h2] at h
    by_cases h3 : k = 3
    ·rw [if_pos h3] at h
     cases hi : pNum 1 r1 with
     | none => rw [hi] at h; cases h
     | some y =>
      rw [hi] at h
      simp only [Option.map_some, Option.some.injEq, Prod.mk.injEq] at h
      exact .inr (.inr (.inl ⟨h3, y.1, by rw [← h.2], h.1.symm⟩))
    ·rw [if_neg h3] at h
     simp only [Option.some.injEq, Prod.mk.injEq] at h
     obtain rfl : k = 0 := by omega
     exact .inr (.inr (.inr ⟨rfl, h.2.symm, h.1.symm⟩))
theorem pVal_nones {l : List UInt8} (h : pVal l = none) : pNum 3 l = none ∨ ∃ k r1, pNum 3 l = some (k, r1) ∧ ((k = 1 ∧ pInt r1 = none) ∨ (k = 2 ∧ pText 32 r1 = none) ∨ (k = 3 ∧ pNum 1 r1 = none)) := by
 unfold pVal at h
 cases hk : pNum 3 l with
 | none => exact .inl rfl
 | some x =>
  obtain ⟨k, r1⟩ := x
  rw [hk] at h
  simp only [Option.bind_some] at h
  refine .inr ⟨k, r1, rfl, ?_⟩
  by_cases h1 : k = 1
  ·rw [if_pos h1] at h
   exact .inl ⟨h1, by simpa using h⟩
  ·rw [if_neg h1] at h
   by_cases h2 : k = 2
   ·rw [if_pos h2] at h
    exact .inr (.inl ⟨h2, by simpa using h⟩)
   ·rw [if_neg h2] at h
    by_cases h3 : k = 3
    ·rw [if_pos h3] at h
     exact .inr (.inr ⟨h3, by simpa using h⟩)
    ·rw [if_neg h3] at h; cases h

theorem pInt_some {l r : List UInt8} {n : Int} (h : pInt l = some (n, r)) : readInt l = (n, 0, r) := by
 unfold pInt at h
 split at h
 ·rename_i h0
  simp only [Option.some.injEq, Prod.mk.injEq] at h
  rw [← h.1, ← h.2]
  exact Prod.ext rfl (Prod.ext h0 rfl)
 ·cases h
theorem pInt_none {l : List UInt8} (h : pInt l = none) : (readInt l).2.1 ≠ 0 := by
 unfold pInt at h; split at h
 ·cases h
 ·assumption

end Go.Proofs.Ytiednihagnehlaa

namespace Go.Proofs.Ytiednihagnehlaa
open Go.RowKit

end Go.Proofs.Ytiednihagnehlaa

namespace Go.Proofs.Ytiednihagnehlaa
open Go.RowKit

/-- v is a slice of rows of the call's own (from block B on) -/
def OwnsR {α : Type} (w : World) (B : Nat) (E : TypeId) (k : Nat) (enc : α → List Value) (v : Value) (l : List α) : Prop := w.ownsRow B E k v l.length (l.flatMap enc)

section
variable {α : Type} {w w' : World} {B : Nat} {E : TypeId} {k : Nat} {enc : α → List Value} {v : Value} {l : List α}
theorem flat_len (hk : ∀ x ∈ l, (enc x).length = k) : (l.flatMap enc).length = l.length * k := by
 induction l with
 | nil => simp
 | cons x r ih =>
  rw [List.flatMap_cons, List.length_append, hk x (by simp), ih (fun y hy => hk y (by simp [hy])), List.length_cons, Nat.succ_mul]
  omega
theorem OwnsR.nil (w : World) (B : Nat) : OwnsR w B E k enc (.slice none 0 0) [] := World.ownsRow_nil w B _ k
theorem OwnsR.keeps {S : Nat → Prop} (h : OwnsR w B E k enc v l) (hk : Keeps S w w') (hS : ∀ b, v.ownBlock = some b → ¬ S b) : OwnsR w' B E k enc v l := ownsRow_keeps h hk hS
theorem OwnsR.old (h : OwnsR w B E k enc v l) (hk : Old w w') : OwnsR w' B E k enc v l := h.keeps hk (fun _ _ f => f)
theorem OwnsR.mono {B' : Nat} (h : OwnsR w B E k enc v l) (hb : B' ≤ B) : OwnsR w B' E k enc v l := ownsRow_mono h hb
theorem OwnsR.block (h : OwnsR w B E k enc v l) : ∀ b, v.ownBlock = some b → B ≤ b ∧ b < w.heap.size := h.lt
theorem OwnsR.alloc (h : OwnsR w B E k enc v l) (o : Obj) : OwnsR (w.alloc o) B E k enc v l := h.old ((Keeps.refl _ _).alloc o)
theorem OwnsR.sees (h : OwnsR w B E k enc v l) (hk : ∀ x, (enc x).length = k) (_hpos : 0 < k) : SeesR w k enc v l := by
 obtain ⟨h1, h2⟩ := h
 rcases h2 with ⟨rfl, h0⟩ | ⟨g, cap, cur, rfl, hb, hgg, hn, hm, hs, ht⟩
 ·have hl : l = [] := List.eq_nil_of_length_eq_zero h0
  subst hl
  exact SeesR.nil w
 ·refine ⟨_, cap, rfl, hn, hm, fun h => (by cases h), fun a ha => ?_⟩
  cases ha
  refine ⟨fun _ => rfl, fun j x hj i u hu => ?_⟩
  have hi : i < k := by rw [← hk x]; exact (List.getElem?_eq_some_iff.1 hu).1
  have hjl : j < l.length := (List.getElem?_eq_some_iff.1 hj).1
  rw [show (⟨g, 0, none⟩ : Addr).add (j * k + i) = ⟨g, j * k + i, none⟩ from by unfold Addr.add; split <;> simp_all]
  rw [cell_of_row w g _ cur _ (0, 0) hgg]
  have hj' := flat_at hk l j x hj i hi
  rw [← ht, List.getElem?_take, hu] at hj'
  split at hj'
  ·simpa using hj'
  ·cases hj'
end

/-- append(own.., seen..) -/
theorem wpList_append_rows {P : Program} {α : Type} {w : World} {ops : Array Oper} {rest : List Oper} {o : Oper} {a : Act} {Q : Exit → Act → World → Prop} (hgd : o.guard = none) (s x : Operand) (T : TypeId)
  (ho : o.op = .call { callee := .builtin .append, args := #[s, x], argTypes := #[T, T] })
  (B : Nat) (E : TypeId) (k by_ : Nat) (enc : α → List Value) (z : Value) (ht : P.underlying T = some (.slice E)) (hinfo : (P.info? E).map (fun i => (i.zero, i.size, i.bytes)) = some (some z, k, by_)) (hzs : z.cells.size = k) (hpos : 0 < k)
  (v : Value) (l : List α) (hs : a.eval s = v) (hown : OwnsR w B E k enc v l) (u : Value) (m : List α) (hx : a.eval x = u) (hu : SeesR w k enc u m) (hk : ∀ x ∈ m, (enc x).length = k) (h1 : ∀ x ∈ m, ∀ c ∈ enc x, c.oneCell' = true)
  (h63 : l.length + m.length ≤ maxLen) (hlen : (l.length + m.length) * by_ ≤ 140737488355328) (hB : B ≤ w.heap.size)
  (h : ∀ v' w', OwnsR w' B E k enc v' (l ++ m) → w.grownBy w' v.ownBlock → (v'.ownBlock = v.ownBlock ∨ v'.ownBlock = some w.heap.size) → wpList P ops Q rest (a.put o.dst v') w') : wpList P ops Q (o :: rest) a w := by
 obtain ⟨p, c, rfl, g1, g2, g3, g4⟩ := hu
 obtain ⟨i0, hi, hz0, hz1, hz2⟩ := info_parts hinfo
 cases p with
 | none =>
  obtain rfl := g3 rfl
  obtain rfl : m = [] := List.eq_nil_of_length_eq_zero (by omega)
  exact wpList_append_own_none hgd s x T ho B E i0 k ht hi v l.length (l.flatMap enc) hs hown hx (h v w (by simpa [OwnsR] using hown) (World.grownBy.refl _ _) (.inl rfl))
 | some ad =>
  refine wpList_append_own_at w hgd s x T ho B E i0 z k by_ ht hi hz0 hz1 hz2 hzs hpos v l.length (l.flatMap enc) hs hown
   ad m.length c (m.flatMap enc) hx (flat_len hk) ?_ ?_ h63 hlen hB ?_
  ·intro j u hu
   have hj : j < m.length * k := by rw [← flat_len hk]; exact (List.getElem?_eq_some_iff.1 hu).1
   have hq : j / k < m.length := (Nat.div_lt_iff_lt_mul hpos).2 hj
   have hx' : m[j / k]? = some m[j / k] := List.getElem?_eq_getElem hq
   have hjr : j = j / k * k + j % k := by rw [Nat.mul_comm]; exact (Nat.div_add_mod j k).symm
   rw [hjr]
   refine (g4 ad rfl).2 (j / k) _ hx' (j % k) u ?_
   rw [← hu]
   have := flat_at' hk (j / k) _ hx' (j % k) (Nat.mod_lt _ hpos)
   rw [← this, ← hjr]
  ·intro u hu
   obtain ⟨y, hy, hyu⟩ := List.mem_flatMap.1 hu
   exact h1 y hy u hyu
  ·intro v' w' ho' hg' _ hat
   exact h v' w' (by unfold OwnsR; simpa using ho') hg' hat

/-- .. as one step of a region that draws -/
theorem step_append_rows {P : Program} {α : Type} {w : World} {ops : Array Oper} {o : Oper} {a : Act} {K : Act → World → Prop} {Q : Exit → Act → World → Prop} {G : Prop} (hgd : o.guard = none) (s x : Operand) (T : TypeId)
  (ho : o.op = .call { callee := .builtin .append, args := #[s, x], argTypes := #[T, T] })
  (B : Nat) (E : TypeId) (k by_ : Nat) (enc : α → List Value) (z : Value) (ht : P.underlying T = some (.slice E)) (hinfo : (P.info? E).map (fun i => (i.zero, i.size, i.bytes)) = some (some z, k, by_)) (hzs : z.cells.size = k) (hpos : 0 < k)
  (v : Value) (l : List α) (hs : a.eval s = v) (hown : OwnsR w B E k enc v l) (u : Value) (m : List α) (hx : a.eval x = u) (hu : SeesR w k enc u m) (hk : ∀ x ∈ m, (enc x).length = k) (h1 : ∀ x ∈ m, ∀ c ∈ enc x, c.oneCell' = true)
  (h63 : l.length + m.length ≤ maxLen) (hlen : (l.length + m.length) * by_ ≤ 140737488355328) (hB : B ≤ w.heap.size)
  (h : ∀ v' w', OwnsR w' B E k enc v' (l ++ m) → w.grownBy w' v.ownBlock → (v'.ownBlock = v.ownBlock ∨ v'.ownBlock = some w.heap.size) → K (a.put o.dst v') w') :
  if Region.wanted o (yielded ops a.tmps) = true then Oper.wp P o a w K Q else G := by
 have hw : Region.wanted o (yielded ops a.tmps) = true := by simp [Region.wanted, hgd]
 rw [if_pos hw]
 obtain ⟨p, c, rfl, g1, g2, g3, g4⟩ := hu
 obtain ⟨i0, hi, hz0, hz1, hz2⟩ := info_parts hinfo
 cases p with
 | none =>
  obtain rfl := g3 rfl
  obtain rfl : m = [] := List.eq_nil_of_length_eq_zero (by omega)
  have hrun := run_append_owned_none (P := P) (w := w) B T o.type E i0 k ht hi v l.length (l.flatMap enc) hown
  unfold Oper.wp
  simp [execOp, ho, resolve, invoke, builtin, hs, hx, hrun, Result.andThen]
  exact h v w (by simpa [OwnsR] using hown) (World.grownBy.refl _ _) (.inl rfl)
 | some ad =>
  obtain ⟨v', w', hr, h2, h3, _, h5⟩ := run_append_own_at (P := P) w B T o.type E i0 z k by_ ht hi hz0 hz1 hz2 hzs hpos v l.length (l.flatMap enc) hown ad m.length c (m.flatMap enc) (flat_len hk) (by
    intro j u hu
    have hj : j < m.length * k := by rw [← flat_len hk]; exact (List.getElem?_eq_some_iff.1 hu).1
    have hq : j / k < m.length := (Nat.div_lt_iff_lt_mul hpos).2 hj
    have hx' : m[j / k]? = some m[j / k] := List.getElem?_eq_getElem hq
    have hjr : j = j / k * k + j % k := by rw [Nat.mul_comm]; exact (Nat.div_add_mod j k).symm
    rw [hjr]
    refine (g4 ad rfl).2 (j / k) _ hx' (j % k) u ?_
    rw [← hu]
    have := flat_at' hk (j / k) _ hx' (j % k) (Nat.mod_lt _ hpos)
    rw [← this, ← hjr]) (by
    intro u hu
    obtain ⟨y, hy, hyu⟩ := List.mem_flatMap.1 hu
    exact h1 y hy u hyu) h63 hlen hB
  unfold Oper.wp
  simp [execOp, ho, resolve, invoke, builtin, hs, hx, hr, Result.andThen]
  exact h v' w' (by unfold OwnsR; simpa using h2) h3 h5
end Go.Proofs.Ytiednihagnehlaa

namespace Go.Proofs.Ytiednihagnehlaa
open Go.RowKit

abbrev OwnsA (w : World) (B : Nat) (v : Value) (l : List At) : Prop := OwnsR w B 126 5 At.cells v l
theorem Try.infoAttr : (Try.prog.info? 126).map (fun i => (i.zero, i.size, i.bytes)) = some (some (.agg #[.string ⟨#[]⟩, .int .i64 0, .int .i64 0, .string ⟨#[]⟩, .bool false]), 5, 56) := by kernel_rfl
theorem blk2 {w : World} {b : Nat} {t : TypeId} {a0 a1 : Value} (h : w.heap[b]? = some (.cells #[a0, a1] t (0, 0))) :
  (w.cell? ⟨b, 0, none⟩ = some a0 ∧ w.cell? ⟨b, 1, none⟩ = some a1) ∧ (w.frozen? ⟨b, 0, none⟩ = false ∧ w.frozen? ⟨b, 1, none⟩ = false) := by simp [World.cell?, World.frozen?, h]

theorem pAt_cases {l r : List UInt8} {a : At} (h : pAt l = some (a, r)) : ∃ l1, pText 16 l = some (a.name, l1) ∧ pVal l1 = some (a.val, r) := by
 unfold pAt at h
 cases hk : pText 16 l with
 | none => rw [hk] at h; cases h
 | some x =>
  rw [hk] at h
  simp only [Option.bind_some] at h
  cases hi : pVal x.2 with
  | none => rw [hi] at h; cases h
  | some y =>
   rw [hi] at h
   simp only [Option.map_some, Option.some.injEq, Prod.mk.injEq] at h
   obtain ⟨rfl, rfl⟩ := h
   exact ⟨x.2, rfl, hi⟩
theorem pAt_nones {l : List UInt8} (h : pAt l = none) : pText 16 l = none ∨ ∃ s l1, pText 16 l = some (s, l1) ∧ pVal l1 = none := by
 unfold pAt at h
 cases hk : pText 16 l with
 | none => exact .inl rfl
 | some x =>
  rw [hk] at h
  simp only [Option.bind_some] at h
  exact .inr ⟨x.1, x.2, rfl, by simpa using h⟩

theorem pEvent_eq (l : List UInt8) : pEvent l = (pText 16 l).bind fun x => (pList 8 pAt x.2).map fun y => ((x.1, y.1), y.2) := rfl

end Go.Proofs.Ytiednihagnehlaa

namespace Go.Proofs.Ytiednihagnehlaa
open Go.RowKit

def valL (v : Val) : List Value := [.int .i64 v.kind, .int .i64 v.num, .string v.str, .bool v.is]
abbrev SeesV (w : World) (v : Value) (l : List Val) : Prop := SeesR w 4 valL v l
/-- a constraint: sv is where its set lies -/
structure Con where
 name : ByteArray
 op : Int
 val : Val
 sv : Value
 set : List Val
def Con.cells (c : Con) : List Value := [.string c.name, .int .i64 c.op, .int .i64 c.val.kind, .int .i64 c.val.num, .string c.val.str, .bool c.val.is, c.sv]
/-- has a value nothing? -/
def bare (v : Val) : Bool := (v.kind == 0) && ((v.num == 0) && (v.str.toList.isEmpty && !v.is))
/-- may a constraint be? -/
def conOk (c : Con) : Bool :=
 decide (1 ≤ c.name.size) && decide (c.name.size ≤ 16) &&
 if c.op = 1 then bare c.val && decide (c.set.length = 0)
 else if 2 ≤ c.op ∧ c.op ≤ 7 then c.val.ok && decide (c.set.length = 0)
 else if c.op = 8 then c.val.ok && (decide (c.val.kind = 2) && decide (c.set.length = 0))
 else if c.op = 9 then bare c.val && (decide (1 ≤ c.set.length) && (decide (c.set.length ≤ 6) && c.set.all Val.ok))
 else false

theorem eql_bare (v : Val) (W : World) : (binOp .eql 66 (.agg v.cells) (.agg #[.int .i64 0, .int .i64 0, .string ⟨#[]⟩, .bool false])).run Try.prog W = .ok (.bool (bare v)) W := by
 obtain ⟨k, n, s, b⟩ := v
 unfold Val.cells bare
 rw [eql_val, empty_eq]
 cases b <;> simp

theorem may_cons1_any (v : Val) (w : World) : Calls Try.prog 81 #[.agg v.cells] w fun e w' => e = .returned (.bool (!v.ok)) ∧ Old w w' := by
 have V := fun W => val_any v W
 obtain ⟨k, n, s, b⟩ := v
 unfold Val.cells at V ⊢
 simp only at V ⊢
 have HV := Lib.hid V
 clear V
 go_enter Try.func81, Try.ntmps81
 go_wp2_with fail
 refine (HV.out _).mono ?_
 rintro e w1 ⟨rfl, hk⟩
 have K := Lib.hid (((Keeps.refl _ w).alloc _).trans hk)
 clear hk
 go_wp2_with fail
 go_ret
 exact ⟨rfl, K.out⟩

theorem index_set_any (v : Value) (l : List Val) (w : World) (h : SeesR w 4 valL v l) (hf : ∀ x ∈ l, True)
  (hc : ∀ x, True → ∀ W, Old w W → Calls Try.prog 81 #[.agg x.cells] W fun e w' => e = .returned (.bool (!Val.ok x)) ∧ Old W w') :
  Calls Try.prog 94 #[v, .func (.func 81) #[] #[]] w fun e w' => (∃ i : Int, e = .returned (.int .i64 i) ∧ decide (0 ≤ i) = !(l.all Val.ok)) ∧ Old w w' := by
 by_cases hl : 0 < l.length
 ·obtain ⟨b, o, c, rfl, h1, h2, hcell⟩ := h.at hl
  have hm : l.length ≤ 9223372036854775807 := by unfold maxLen at h2; omega
  have HC := Lib.hid hcell
  have HF := Lib.hid hf
  have HK := Lib.hid hc
  clear h1 h2 h hcell hl hf hc
  go_enter Try.func94, Try.ntmps94
  go_wp2_with fail
  go_loopw [8] (fun v8 wr => ∃ k : Nat, k ≤ l.length ∧ v8 = .int .i64 k ∧ (l.take k).all Val.ok = true ∧ Old w wr) (fun v8 _ => l.length - (intOf v8).toNat)
  case atStart => exact ⟨0, by omega, rfl, by simp, Keeps.refl _ _⟩
  case round =>
   obtain ⟨k, hk, rfl, hr, hkw⟩ := hrel
   have HR := Lib.hid hr
   clear hr
   by_cases hlt : k < l.length
   ·have hx : l[k]? = some l[k] := List.getElem?_eq_getElem hlt
    generalize l[k] = x at hx
    have cell : ∀ i u, (valL x)[i]? = some u → wr.cell? ⟨b, o + k * 4 + i, none⟩ = some u := fun i u hu => hkw.cell (HC.out k x hx i u hu) (fun f => f)
    have c0 := cell 0 _ rfl
    have c1 := cell 1 _ rfl
    have c2 := cell 2 _ rfl
    have c3 := cell 3 _ rfl
    simp only [Nat.add_zero] at c0
    have N := HK.out x (HF.out x (List.mem_of_getElem? hx)) wr hkw
    have HX := Lib.hid (And.intro hx hkw)
    clear cell hx hkw
    cases hg : Val.ok x
    ·rw [hg] at N
     have HN := Lib.hid N
     have HG := Lib.hid hg
     clear N hg
     go_wp2_with fail
     refine HN.out.mono ?_
     rintro e w1 ⟨rfl, hk1⟩
     have K1 := Lib.hid (HX.out.2.trans hk1)
     clear hk1
     go_wp2_with fail
     go_ret
     exact ⟨⟨k, rfl, by rw [all_false_of HX.out.1 HG.out]; simp⟩, K1.out⟩
    ·rw [hg] at N
     have HN := Lib.hid N
     have HG := Lib.hid hg
     clear N hg
     go_wp2_with fail
     refine HN.out.mono ?_
     rintro e w1 ⟨rfl, hk1⟩
     have K1 := Lib.hid (HX.out.2.trans hk1)
     clear hk1
     go_wp2_with fail
     go_roundw
     case rel => exact ⟨k + 1, by omega, by go_num, by rw [all_take_succ HX.out.1, HR.out, HG.out]; rfl, K1.out⟩
     case measure => simp [intOf]; omega
   ·have K1 := Lib.hid hkw
    clear hkw
    go_wp2_with fail
    go_ret
    refine ⟨⟨-1, rfl, ?_⟩, K1.out⟩
    have := HR.out
    rw [List.take_of_length_le (by omega)] at this
    rw [this]
    rfl
 ·obtain ⟨rfl, p, c, rfl⟩ := h.at0 (by omega)
  clear h hl hf hc
  go_enter Try.func94, Try.ntmps94
  go_wp2_with fail
  go_loopw [8] (fun v8 wr => v8 = .int .i64 0 ∧ Old w wr) (fun _ _ => 0)
  case atStart => exact ⟨rfl, Keeps.refl _ _⟩
  case round =>
   obtain ⟨rfl, hkw⟩ := hrel
   have K1 := Lib.hid hkw
   clear hkw
   go_wp2_with fail
   go_ret
   exact ⟨⟨-1, rfl, rfl⟩, K1.out⟩
theorem contains_set_any (v : Value) (l : List Val) (w : World) (h : SeesR w 4 valL v l) (hf : ∀ x ∈ l, True)
  (hc : ∀ x, True → ∀ W, Old w W → Calls Try.prog 81 #[.agg x.cells] W fun e w' => e = .returned (.bool (!Val.ok x)) ∧ Old W w') :
  Calls Try.prog 80 #[v, .func (.func 81) #[] #[]] w fun e w' => e = .returned (.bool (!(l.all Val.ok))) ∧ Old w w' := by
 obtain ⟨p, c, rfl, h1, h2⟩ := h.len
 have C := Lib.hid (index_set_any _ l w h hf hc)
 clear h h1 h2 hf hc
 go_enter Try.func80, Try.ntmps80
 go_wp2_with fail
 refine C.out.mono ?_
 rintro e w' ⟨⟨i, rfl, hi⟩, hk⟩
 have HI := Lib.hid (And.intro hi hk)
 clear hi hk
 go_wp2_with fail
 go_ret
 exact ⟨ret_bool HI.out.1, HI.out.2⟩
end Go.Proofs.Ytiednihagnehlaa
