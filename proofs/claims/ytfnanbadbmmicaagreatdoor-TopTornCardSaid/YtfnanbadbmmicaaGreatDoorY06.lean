/- DERIVED. Plain: reading of forms (layer 7): numbers, texts, values, events; what is read, laid, is what went. · DERIVED. The contracts of codec's reader: must, num, text. -/
import Derived.Test.YtfnanbadbmmicaaGreatDoorY05
import Derived.Test.YtfnanbadbmmicaaGreatDoorY03
namespace Go.Proofs.YtfnanbadbmmicaaGreatDoor

def pNum (most : Nat) (l : List UInt8) : Option (Nat × List UInt8) := if (readNum l most).2.1 = 0 then some ((readNum l most).1, (readNum l most).2.2) else none
def pInt (l : List UInt8) : Option (Int × List UInt8) := if (readInt l).2.1 = 0 then some ((readInt l).1, (readInt l).2.2) else none
def pText (most : Nat) (l : List UInt8) : Option (ByteArray × List UInt8) := if (readBytes l most).2.1 = 0 then some (⟨(readBytes l most).1.toArray⟩, (readBytes l most).2.2) else none
def pVal (l : List UInt8) : Option (Val × List UInt8) := (pNum 3 l).bind fun x =>
 if x.1 = 1 then (pInt x.2).map fun y => (⟨1, y.1, ⟨#[]⟩, false⟩, y.2)
 else if x.1 = 2 then (pText 32 x.2).map fun y => (⟨2, 0, y.1, false⟩, y.2)
 else if x.1 = 3 then (pNum 1 x.2).map fun y => (⟨3, 0, ⟨#[]⟩, y.1 == 1⟩, y.2)
 else some (⟨x.1, 0, ⟨#[]⟩, false⟩, x.2)
def pAt (l : List UInt8) : Option (At × List UInt8) := (pText 16 l).bind fun x => (pVal x.2).map fun y => (⟨x.1, y.1⟩, y.2)
/-- n times one thing, laid behind what is there -/
def pMany {α : Type} (p : List UInt8 → Option (α × List UInt8)) : Nat → List α → List UInt8 → Option (List α × List UInt8)
 | 0, s, l => some (s, l)
 | n + 1, s, l => (p l).bind fun x => pMany p n (s ++ [x.1]) x.2
def pList {α : Type} (most : Nat) (p : List UInt8 → Option (α × List UInt8)) (l : List UInt8) : Option (List α × List UInt8) := (pNum most l).bind fun x => pMany p x.1 [] x.2
def pEvent (l : List UInt8) : Option ((ByteArray × List At) × List UInt8) := (pText 16 l).bind fun x => (pList 8 pAt x.2).map fun y => ((x.1, y.1), y.2)

theorem pNum_some {most : Nat} {l r : List UInt8} {n : Nat} : pNum most l = some (n, r) ↔ readNum l most = (n, 0, r) := by
 unfold pNum
 constructor
 ·intro h
  split at h
  ·rename_i h0
   simp only [Option.some.injEq, Prod.mk.injEq] at h
   rw [← h.1, ← h.2]
   exact Prod.ext rfl (Prod.ext h0 rfl)
  ·cases h
 ·intro h; rw [h]; simp
theorem pNum_none {most : Nat} {l : List UInt8} : pNum most l = none ↔ (readNum l most).2.1 ≠ 0 := by
 unfold pNum; split <;> simp_all
theorem pNum_inv {most : Nat} {l r : List UInt8} {n : Nat} (h : pNum most l = some (n, r)) : l = form n ++ r ∧ n ≤ most ∧ n < 18446744073709551616 := read_form (pNum_some.1 h)
theorem pNum_fwd {most n : Nat} (r : List UInt8) (h : n ≤ most) (h2 : n < 18446744073709551616) : pNum most (form n ++ r) = some (n, r) := by
 rw [pNum_some, form_read n r most h2, if_neg (by omega)]
theorem pInt_eq (l : List UInt8) : pInt l = if (readNum l 18446744073709551615).2.1 = 0 then some (zagZ (readNum l 18446744073709551615).1, (readNum l 18446744073709551615).2.2) else none := by
 unfold pInt readInt
 by_cases h : (readNum l 18446744073709551615).2.1 = 0
 ·simp [h]
 ·simp [h]
theorem pInt_inv {l r : List UInt8} {n : Int} (h : pInt l = some (n, r)) : l = form (zigN n) ++ r ∧ -9223372036854775808 ≤ n ∧ n ≤ 9223372036854775807 := by
 rw [pInt_eq] at h
 split at h
 ·rename_i h0
  simp only [Option.some.injEq, Prod.mk.injEq] at h
  have hr := read_form (l := l) (r := (readNum l 18446744073709551615).2.2) (most := 18446744073709551615) (n := (readNum l 18446744073709551615).1) (Prod.ext rfl (Prod.ext h0 rfl))
  refine ⟨?_, ?_⟩
  ·rw [← h.1, zig_zag, ← h.2]; exact hr.1
  ·rw [← h.1]; exact zagZ_range hr.2.2
 ·cases h
theorem pInt_fwd {n : Int} (r : List UInt8) (h : -9223372036854775808 ≤ n ∧ n ≤ 9223372036854775807) : pInt (form (zigN n) ++ r) = some (n, r) := by
 have hz := zigN_lt h
 have hr := form_read (zigN n) r 18446744073709551615 hz
 rw [if_neg (by omega)] at hr
 rw [pInt_eq, hr]
 simp [zag_zig]
theorem arr_toList (l : List UInt8) : (⟨l.toArray⟩ : ByteArray).toList = l := by rw [ByteArray.toList_eq]
theorem arr_size (l : List UInt8) : (⟨l.toArray⟩ : ByteArray).size = l.length := by simp [ByteArray.size]
theorem toList_arr (s : ByteArray) : (⟨s.toList.toArray⟩ : ByteArray) = s := by rw [ByteArray.toList_eq]
theorem pText_inv {most : Nat} {l r : List UInt8} {s : ByteArray} (hm : most < 9223372036854775808) (h : pText most l = some (s, r)) : l = form s.size ++ s.toList ++ r ∧ s.size ≤ most := by
 unfold pText at h
 split at h
 ·rename_i h0
  simp only [Option.some.injEq, Prod.mk.injEq] at h
  obtain ⟨hs, hr⟩ := h
  unfold readBytes at h0 hs hr
  rw [if_neg (by omega)] at h0 hs hr
  rw [Int.toNat_natCast] at h0 hs hr
  by_cases e1 : (readNum l most).2.1 = 0
  ·rw [if_neg (by simpa using e1)] at h0 hs hr
   by_cases e2 : (readNum l most).2.2.length < (readNum l most).1
   ·rw [if_pos e2] at h0; simp at h0
   ·rw [if_neg e2] at h0 hs hr
    have hf := read_form (l := l) (most := most) (n := (readNum l most).1) (r := (readNum l most).2.2) (Prod.ext rfl (Prod.ext e1 rfl))
    have hsz : s.size = (readNum l most).1 := by rw [← hs, arr_size, List.length_take]; omega
    refine ⟨?_, by omega⟩
    rw [hsz, ← hs, arr_toList, ← hr, List.append_assoc, List.take_append_drop]
    exact hf.1
  ·rw [if_pos (by simpa using e1)] at h0; simp at h0; exact absurd h0 e1
 ·cases h
theorem pText_fwd {most : Nat} {s : ByteArray} (r : List UInt8) (h : s.size ≤ most) (hm : most < 9223372036854775808) : pText most (form s.size ++ s.toList ++ r) = some (s, r) := by
 have hr : readNum (form s.size ++ s.toList ++ r) most = (s.size, 0, s.toList ++ r) := by rw [List.append_assoc, form_read _ _ _ (by omega), if_neg (by omega)]
 have hl : s.toList.length = s.size := size_toList s
 have hb : readBytes (form s.size ++ s.toList ++ r) (most : Int) = (s.toList, 0, r) := by
  unfold readBytes
  rw [if_neg (by omega), Int.toNat_natCast, hr]
  simp only [ne_eq, not_true_eq_false, if_false]
  rw [if_neg (by simp; omega)]
  simp [← hl]
 unfold pText
 rw [hb]
 simp [toList_arr]

theorem Val.kinds {v : Val} (hv : v.ok = true) : v.kind = 1 ∨ v.kind = 2 ∨ v.kind = 3 := by
 unfold Val.ok at hv
 by_cases h1 : v.kind = 1
 ·exact .inl h1
 ·by_cases h2 : v.kind = 2
  ·exact .inr (.inl h2)
  ·simp [h1, h2] at hv; exact .inr (.inr hv.1.1)
theorem empty_arr {s : ByteArray} (h : s.toList.isEmpty = true) : s = ⟨#[]⟩ := by
 rw [← toList_arr s, List.isEmpty_iff.1 h]
/-- numbers within their kind -/
def VFits (v : Val) : Prop := -9223372036854775808 ≤ v.num ∧ v.num ≤ 9223372036854775807
theorem pVal_inv {l r : List UInt8} {v : Val} (h : pVal l = some (v, r)) : VFits v ∧ 0 ≤ v.kind ∧ v.kind ≤ 3 ∧ v.str.size ≤ 32 ∧ (v.ok = true → l = valForm v ++ r) := by
 unfold pVal at h
 cases hk : pNum 3 l with
 | none => rw [hk] at h; cases h
 | some x =>
  obtain ⟨k, r1⟩ := x
  obtain ⟨hl, hk3, _⟩ := pNum_inv hk
  rw [hk] at h
  simp only [Option.bind_some] at h
  by_cases h1 : k = 1
  ·rw [if_pos h1] at h
   cases hi : pInt r1 with
   | none => rw [hi] at h; cases h
   | some y =>
    obtain ⟨n, r2⟩ := y
    rw [hi] at h
    simp only [Option.map_some, Option.some.injEq, Prod.mk.injEq] at h
    obtain ⟨rfl, rfl⟩ := h
    obtain ⟨e1, e2⟩ := pInt_inv hi
    refine ⟨e2, by simp, by simp, by simp [ByteArray.size], fun _ => ?_⟩
    rw [hl, e1, h1]; simp [valForm]
  ·rw [if_neg h1] at h
   by_cases h2 : k = 2
   ·rw [if_pos h2] at h
    cases hi : pText 32 r1 with
    | none => rw [hi] at h; cases h
    | some y =>
     obtain ⟨n, r2⟩ := y
     rw [hi] at h
     simp only [Option.map_some, Option.some.injEq, Prod.mk.injEq] at h
     obtain ⟨rfl, rfl⟩ := h
     obtain ⟨e1, e2⟩ := pText_inv (by decide) hi
     refine ⟨⟨by simp, by simp⟩, by simp, by simp, e2, fun _ => ?_⟩
     rw [hl, e1, h2]; simp [valForm]
   ·rw [if_neg h2] at h
    by_cases h3 : k = 3
    ·rw [if_pos h3] at h
     cases hi : pNum 1 r1 with
     | none => rw [hi] at h; cases h
     | some y =>
      obtain ⟨n, r2⟩ := y
      rw [hi] at h
      simp only [Option.map_some, Option.some.injEq, Prod.mk.injEq] at h
      obtain ⟨rfl, rfl⟩ := h
      obtain ⟨e1, e2, _⟩ := pNum_inv hi
      refine ⟨⟨by simp, by simp⟩, by simp, by simp, by simp [ByteArray.size], fun _ => ?_⟩
      rw [hl, e1, h3]
      have : n = 0 ∨ n = 1 := by omega
      rcases this with rfl | rfl <;> simp [valForm]
    ·rw [if_neg h3] at h
     simp only [Option.some.injEq, Prod.mk.injEq] at h
     obtain ⟨rfl, rfl⟩ := h
     refine ⟨⟨by simp, by simp⟩, by simp, by simp; omega, by simp [ByteArray.size], fun hv => ?_⟩
     have := Val.kinds hv
     simp only at this
     omega
theorem pVal_fwd {v : Val} (r : List UInt8) (hv : v.ok = true) (hf : VFits v) : pVal (valForm v ++ r) = some (v, r) := by
 have hk := Val.kinds hv
 obtain ⟨k, n, s, b⟩ := v
 unfold Val.ok at hv
 unfold VFits at hf
 simp only at hv hf hk
 unfold pVal valForm
 rcases hk with rfl | rfl | rfl
 ·simp at hv
  obtain ⟨hs, rfl⟩ := hv
  obtain rfl := empty_arr (by simpa using hs)
  simp only [if_pos]
  rw [List.append_assoc, pNum_fwd _ (by decide) (by decide)]
  simp [pInt_fwd r hf]
 ·simp at hv
  obtain ⟨⟨h1, rfl⟩, rfl⟩ := hv
  simp only [show ¬ ((2 : Int) = 1) from by decide, if_false, if_pos]
  rw [List.append_assoc, List.append_assoc, pNum_fwd _ (by decide) (by decide)]
  have := pText_fwd (most := 32) (s := s) r h1 (by decide)
  rw [List.append_assoc] at this
  simp [this]
 ·simp at hv
  obtain ⟨rfl, hs⟩ := hv
  obtain rfl := empty_arr (by simpa using hs)
  simp only [show ¬ ((3 : Int) = 1) from by decide, show ¬ ((3 : Int) = 2) from by decide, if_false]
  rw [List.append_assoc, pNum_fwd _ (by decide) (by decide)]
  have := pNum_fwd (most := 1) (n := if b then 1 else 0) r (by split <;> decide) (by split <;> decide)
  simp only [Option.bind_some, show ¬ (3 = 1) from by decide, show ¬ (3 = 2) from by decide, if_false, if_pos]
  rw [this]
  cases b <;> simp

theorem pAt_inv {l r : List UInt8} {a : At} (h : pAt l = some (a, r)) : VFits a.val ∧ a.name.size ≤ 16 ∧ (a.val.ok = true → l = atForm a ++ r) := by
 unfold pAt at h
 cases hk : pText 16 l with
 | none => rw [hk] at h; cases h
 | some x =>
  obtain ⟨s, r1⟩ := x
  obtain ⟨hl, hs⟩ := pText_inv (by decide) hk
  rw [hk] at h
  simp only [Option.bind_some] at h
  cases hi : pVal r1 with
  | none => rw [hi] at h; cases h
  | some y =>
   obtain ⟨v, r2⟩ := y
   rw [hi] at h
   simp only [Option.map_some, Option.some.injEq, Prod.mk.injEq] at h
   obtain ⟨rfl, rfl⟩ := h
   obtain ⟨e1, _, _, _, e2⟩ := pVal_inv hi
   exact ⟨e1, hs, fun hv => by rw [hl, e2 hv]; simp [atForm]⟩
theorem pAt_fwd {a : At} (r : List UInt8) (hn : a.name.size ≤ 16) (hv : a.val.ok = true) (hf : VFits a.val) : pAt (atForm a ++ r) = some (a, r) := by
 unfold pAt atForm
 have h1 := pText_fwd (most := 16) (s := a.name) (valForm a.val ++ r) hn (by decide)
 rw [show form a.name.size ++ a.name.toList ++ valForm a.val ++ r = form a.name.size ++ a.name.toList ++ (valForm a.val ++ r) from by simp, h1]
 simp [pVal_fwd r hv hf]

section
variable {α : Type} {p : List UInt8 → Option (α × List UInt8)} {f : α → List UInt8} {ok : α → Prop} {good : α → Prop}
/-- what was read, laid, is what went: many things -/
theorem pMany_inv (hp : ∀ l x r, p l = some (x, r) → good x ∧ (ok x → l = f x ++ r)) : ∀ n s l t r, pMany p n s l = some (t, r) → ∃ u, t = s ++ u ∧ u.length = n ∧ (∀ x ∈ u, good x) ∧ ((∀ x ∈ u, ok x) → l = u.flatMap f ++ r)
 | 0, s, l, t, r, h => by
  simp only [pMany, Option.some.injEq, Prod.mk.injEq] at h
  exact ⟨[], by simp [h.1], rfl, (fun x hx => by cases hx), fun _ => by simp [h.2]⟩
 | n + 1, s, l, t, r, h => by
  rw [pMany] at h
  cases hx : p l with
  | none => rw [hx] at h; cases h
  | some x =>
   obtain ⟨x, r1⟩ := x
   rw [hx] at h
   simp only [Option.bind_some] at h
   obtain ⟨u, h1, h2, h3, h4⟩ := pMany_inv hp n (s ++ [x]) r1 t r h
   obtain ⟨g, hf⟩ := hp l x r1 hx
   refine ⟨x :: u, by rw [h1]; simp, by simp [h2], fun y hy => ?_, fun ho => ?_⟩
   ·rcases List.mem_cons.1 hy with rfl | hy
    ·exact g
    ·exact h3 y hy
   ·rw [hf (ho x (by simp)), h4 (fun y hy => ho y (by simp [hy]))]; simp
theorem pMany_fwd (u : List α) (hp : ∀ x ∈ u, ∀ r, p (f x ++ r) = some (x, r)) : ∀ s r, pMany p u.length s (u.flatMap f ++ r) = some (s ++ u, r) := by
 induction u with
 | nil => intro s r; simp [pMany]
 | cons x u ih =>
  intro s r
  rw [List.length_cons, pMany, List.flatMap_cons, List.append_assoc, hp x (by simp)]
  simp only [Option.bind_some]
  rw [ih (fun y hy => hp y (by simp [hy]))]
  simp
theorem pList_inv {most : Nat} (hp : ∀ l x r, p l = some (x, r) → good x ∧ (ok x → l = f x ++ r)) {l r : List UInt8} {u : List α} (h : pList most p l = some (u, r)) : u.length ≤ most ∧ (∀ x ∈ u, good x) ∧ ((∀ x ∈ u, ok x) → l = form u.length ++ u.flatMap f ++ r) := by
 unfold pList at h
 cases hk : pNum most l with
 | none => rw [hk] at h; cases h
 | some x =>
  obtain ⟨n, r1⟩ := x
  obtain ⟨hl, hn, _⟩ := pNum_inv hk
  rw [hk] at h
  simp only [Option.bind_some] at h
  obtain ⟨u', h1, h2, h3, h4⟩ := pMany_inv hp n [] r1 u r h
  obtain rfl : u = u' := by simpa using h1
  exact ⟨by omega, h3, fun ho => by rw [hl, h4 ho, h2]; simp⟩
theorem pList_fwd {most : Nat} (u : List α) (hm : u.length ≤ most) (h64 : u.length < 18446744073709551616) (hp : ∀ x ∈ u, ∀ r, p (f x ++ r) = some (x, r)) (r : List UInt8) : pList most p (form u.length ++ u.flatMap f ++ r) = some (u, r) := by
 unfold pList
 rw [List.append_assoc, pNum_fwd _ hm h64]
 simp only [Option.bind_some]
 rw [pMany_fwd u hp]
 simp
end

theorem attrsOk_mem {l : List At} (h : attrsOk l = true) {a : At} (ha : a ∈ l) : nameOk a.name.toList = true ∧ a.val.ok = true := by
 obtain ⟨i, hi, rfl⟩ := List.getElem_of_mem ha
 exact attrsOk_at h (List.getElem?_eq_getElem hi)
theorem evOk_parts {key : ByteArray} {l : List At} (h : evOk key l = true) : key.size ≤ 16 ∧ l.length ≤ 8 ∧ attrsOk l = true := by
 unfold evOk at h; simp at h; exact ⟨h.1.1, h.1.2, h.2⟩
theorem pEvent_inv {l r : List UInt8} {key : ByteArray} {es : List At} (h : pEvent l = some ((key, es), r)) : key.size ≤ 16 ∧ es.length ≤ 8 ∧ Fits es ∧ (evOk key es = true → l = evForm key es ++ r) := by
 unfold pEvent at h
 cases hk : pText 16 l with
 | none => rw [hk] at h; cases h
 | some x =>
  obtain ⟨s, r1⟩ := x
  obtain ⟨hl, hs⟩ := pText_inv (by decide) hk
  rw [hk] at h
  simp only [Option.bind_some] at h
  cases hi : pList 8 pAt r1 with
  | none => rw [hi] at h; cases h
  | some y =>
   obtain ⟨u, r2⟩ := y
   rw [hi] at h
   simp only [Option.map_some, Option.some.injEq, Prod.mk.injEq] at h
   obtain ⟨⟨rfl, rfl⟩, rfl⟩ := h
   obtain ⟨e1, e2, e3⟩ := pList_inv (f := atForm) (ok := fun a => a.val.ok = true) (good := fun a => VFits a.val ∧ a.name.size ≤ 16) (fun l x r h => ⟨⟨(pAt_inv h).1, (pAt_inv h).2.1⟩, (pAt_inv h).2.2⟩) hi
   refine ⟨hs, e1, fun a ha => ⟨by have := (e2 a ha).2; omega, (e2 a ha).1⟩, fun hok => ?_⟩
   rw [hl, e3 (fun a ha => (attrsOk_mem (evOk_parts hok).2.2 ha).2)]
   simp [evForm]
theorem pEvent_fwd {key : ByteArray} {es : List At} (r : List UInt8) (hok : evOk key es = true) (hf : Fits es) : pEvent (evForm key es ++ r) = some ((key, es), r) := by
 obtain ⟨h1, h2, h3⟩ := evOk_parts hok
 unfold pEvent evForm
 rw [show form key.size ++ key.toList ++ form es.length ++ es.flatMap atForm ++ r = form key.size ++ key.toList ++ (form es.length ++ es.flatMap atForm ++ r) from by simp, pText_fwd _ h1 (by decide)]
 simp only [Option.bind_some]
 rw [pList_fwd es h2 (by omega) (fun a ha r => pAt_fwd r (nameOk_size (attrsOk_mem h3 ha).1) (attrsOk_mem h3 ha).2 (hf a ha).2)]
 simp
end Go.Proofs.YtfnanbadbmmicaaGreatDoor

namespace Go.Proofs.YtfnanbadbmmicaaGreatDoor
open Go.RowKit

/-- what a reader panics with -/
abbrev fault : List PanicEntry := [{ v := .iface 120 (.agg #[]), recovered := false }]
theorem must_ok (w : World) : Calls Tryz.prog 96 #[.int .i64 0] w fun e w' => e = .returned (.tuple #[]) ∧ w = w' := by
 go_enter Tryz.func96, Tryz.ntmps96
 go_wp2_with fail
 go_end0
 exact ⟨rfl, rfl⟩
theorem must_bad (n : Int) (hn : (n != 0) = true) (w : World) : Calls Tryz.prog 96 #[.int .i64 n] w fun e w' => e = .panicked fault ∧ w = w' := by
 go_enter Tryz.func96, Tryz.ntmps96
 go_wp2_with fail
 exact ⟨rfl, rfl, rfl⟩

theorem Rd.keeps {w w' : World} {B rb bb : Nat} {l : List UInt8} {S : Nat → Prop} (h : Rd w B rb bb l) (hk : Keeps S w w') (hS : ∀ k, k < w.heap.size → (k = rb ∨ k = bb) → ¬ S k) : Rd w' B rb bb l := by
 obtain ⟨h0, v, h1, h2, h3, h4, h5⟩ := h
 have hrb := lt_of_block h1
 refine ⟨Nat.le_trans h0 hk.size, v, (hk.block rb hrb (hS rb hrb (.inl rfl))).trans h1, h2.keeps hk (fun k hk' => ?_), h3, h4, h5⟩
 obtain ⟨e, hlt⟩ := h4 k hk'
 exact hS k (by omega) (.inr e)
theorem Rd.old {w w' : World} {B rb bb : Nat} {l : List UInt8} (h : Rd w B rb bb l) (hk : Old w w') : Rd w' B rb bb l := h.keeps hk (fun _ _ _ f => f)
theorem Rd.lt {w : World} {B rb bb : Nat} {l : List UInt8} (h : Rd w B rb bb l) : rb < w.heap.size := by obtain ⟨_, v, h1, _⟩ := h; exact lt_of_block h1

abbrev rdV (rb : Nat) : Value := .agg #[.pointer (some ⟨rb, 0, none⟩)]
abbrev RK (rb : Nat) (w w' : World) : Prop := Keeps (fun k => k = rb) w w'

theorem cnum_yes (B rb bb most n : Nat) (l r : List UInt8) (w : World) (h : Rd w B rb bb l) (hm : most < 18446744073709551616) (hp : pNum most l = some (n, r)) :
  Calls Tryz.prog 73 #[rdV rb, .int .u64 most] w fun e w' => e = .returned (.int .u64 n) ∧ (Rd w' B rb bb r ∧ RK rb w w') := by
 have k0 : RK rb w (w.alloc (.cells #[.pointer (some ⟨rb, 0, none⟩)] 98)) := (Keeps.refl _ _).alloc _
 have hC := rnum_any B rb bb l most _ (h.old ((Keeps.refl (fun _ => False) w).alloc (.cells #[.pointer (some ⟨rb, 0, none⟩)] 98))) hm
 unfold NumPost at hC
 rw [pNum_some.1 hp] at hC
 have HC := Lib.hid hC
 have K0 := Lib.hid k0
 clear hC k0 hp h hm
 go_enter Tryz.func73, Tryz.ntmps73
 go_wp2_with fail
 refine HC.out.mono ?_
 rintro e w1 ⟨rfl, h1, h2⟩
 have H := Lib.hid (And.intro h1 (K0.out.trans h2))
 clear h1 h2
 go_wp2_with fail
 refine (must_ok _).mono ?_
 rintro e w2 ⟨rfl, rfl⟩
 go_wp2_with fail
 go_ret
 exact ⟨rfl, H.out⟩
theorem cnum_no (B rb bb most : Nat) (l : List UInt8) (w : World) (h : Rd w B rb bb l) (hm : most < 18446744073709551616) (hp : pNum most l = none) :
  Calls Tryz.prog 73 #[rdV rb, .int .u64 most] w fun e w' => e = .panicked fault ∧ (Rd w' B rb bb l ∧ RK rb w w') := by
 have k0 : RK rb w (w.alloc (.cells #[.pointer (some ⟨rb, 0, none⟩)] 98)) := (Keeps.refl _ _).alloc _
 have hC := rnum_any B rb bb l most _ (h.old ((Keeps.refl (fun _ => False) w).alloc (.cells #[.pointer (some ⟨rb, 0, none⟩)] 98))) hm
 unfold NumPost at hC
 have he := pNum_none.1 hp
 obtain ⟨e1, e2⟩ := readNum_bad he
 rw [e1, e2] at hC
 obtain ⟨er, her⟩ : ∃ n, n = (readNum l most).2.1 := ⟨_, rfl⟩
 rw [← her] at hC he
 have hd : ((er : Int) != 0) = true := by simp; omega
 have HC := Lib.hid hC
 have K0 := Lib.hid k0
 clear hC k0 hp h hm e1 e2 her he
 go_enter Tryz.func73, Tryz.ntmps73
 go_wp2_with fail
 refine HC.out.mono ?_
 rintro e w1 ⟨rfl, h1, h2⟩
 have H := Lib.hid (And.intro h1 (K0.out.trans h2))
 clear h1 h2
 go_wp2_with fail
 refine (must_bad _ hd _).mono ?_
 rintro e w2 ⟨rfl, rfl⟩
 go_wp2_with fail
 exact ⟨rfl, rfl, H.out⟩

theorem pText_some {most : Nat} {l r : List UInt8} {s : ByteArray} (h : pText most l = some (s, r)) : readBytes l (most : Int) = (s.toList, 0, r) := by
 unfold pText at h
 split at h
 ·rename_i h0
  simp only [Option.some.injEq, Prod.mk.injEq] at h
  rw [← h.1, ← h.2, arr_toList]
  exact Prod.ext rfl (Prod.ext h0 rfl)
 ·cases h
theorem pText_none {most : Nat} {l : List UInt8} (h : pText most l = none) : (readBytes l (most : Int)).2.1 ≠ 0 := by
 unfold pText at h; split at h
 ·cases h
 ·assumption
theorem ctext_yes (B rb bb most : Nat) (s : ByteArray) (l r : List UInt8) (w : World) (h : Rd w B rb bb l) (hm : most < 9223372036854775808) (hp : pText most l = some (s, r)) :
  Calls Tryz.prog 97 #[rdV rb, .int .i64 most] w fun e w' => e = .returned (.string s) ∧ (Rd w' B rb bb r ∧ RK rb w w') := by
 have k0 : RK rb w (w.alloc (.cells #[.pointer (some ⟨rb, 0, none⟩)] 98)) := (Keeps.refl _ _).alloc _
 have hC := rbytes_any B rb bb l most _ (h.old ((Keeps.refl (fun _ => False) w).alloc (.cells #[.pointer (some ⟨rb, 0, none⟩)] 98))) (by omega)
 unfold BytesPost at hC
 rw [pText_some hp] at hC
 have HC := Lib.hid hC
 have K0 := Lib.hid k0
 have HS := Lib.hid (toList_arr s)
 clear hC k0 hp h hm
 go_enter Tryz.func97, Tryz.ntmps97
 go_wp2_with fail
 refine HC.out.mono ?_
 rintro e w1 ⟨p, n, c, rfl, ho, h1, h2⟩
 have H := Lib.hid (And.intro h1 (K0.out.trans h2))
 have ht := ho.sees.text
 rw [HS.out] at ht
 clear h1 h2 ho
 go_wp2_with fail
 refine (must_ok _).mono ?_
 rintro e w2 ⟨rfl, rfl⟩
 go_wp2_with fail
 go_ret
 exact ⟨rfl, H.out⟩
theorem ctext_no (B rb bb most : Nat) (l : List UInt8) (w : World) (h : Rd w B rb bb l) (hm : most < 9223372036854775808) (hp : pText most l = none) :
  Calls Tryz.prog 97 #[rdV rb, .int .i64 most] w fun e w' => e = .panicked fault ∧ ((∃ r, Rd w' B rb bb r) ∧ RK rb w w') := by
 have k0 : RK rb w (w.alloc (.cells #[.pointer (some ⟨rb, 0, none⟩)] 98)) := (Keeps.refl _ _).alloc _
 have hC := rbytes_any B rb bb l most _ (h.old ((Keeps.refl (fun _ => False) w).alloc (.cells #[.pointer (some ⟨rb, 0, none⟩)] 98))) (by omega)
 unfold BytesPost at hC
 have he := pText_none hp
 obtain ⟨er, her⟩ : ∃ n, n = (readBytes l most).2.1 := ⟨_, rfl⟩
 rw [← her] at hC he
 have hd : ((er : Int) != 0) = true := by simp; omega
 have HC := Lib.hid hC
 have K0 := Lib.hid k0
 clear hC k0 hp h hm her he
 go_enter Tryz.func97, Tryz.ntmps97
 go_wp2_with fail
 refine HC.out.mono ?_
 rintro e w1 ⟨p, n, c, rfl, ho, h1, h2⟩
 have H := Lib.hid (And.intro (Exists.intro _ h1) (K0.out.trans h2))
 clear h1 h2 ho
 go_wp2_with fail
 refine (must_bad _ hd _).mono ?_
 rintro e w2 ⟨rfl, rfl⟩
 go_wp2_with fail
 exact ⟨rfl, rfl, H.out⟩
end Go.Proofs.YtfnanbadbmmicaaGreatDoor
