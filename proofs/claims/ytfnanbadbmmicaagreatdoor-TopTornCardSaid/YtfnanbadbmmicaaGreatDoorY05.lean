/- DERIVED. The contracts of the writer of events, and of codec.Size. · DERIVED. Plain: what is laid is read again; what is read, laid, is what went; beginnings. · DERIVED. Sameness of events and items: the document's Same (layers 2 and 7). -/
import Derived.Test.YtfnanbadbmmicaaGreatDoorY04
import Derived.Test.YtfnanbadbmmicaaGreatDoorY01
namespace Go.Proofs.YtfnanbadbmmicaaGreatDoor
open Go.RowKit

/-- a named value's form -/
def atForm (a : At) : List UInt8 := form a.name.size ++ a.name.toList ++ valForm a.val
/-- an event's form -/
def evForm (key : ByteArray) (l : List At) : List UInt8 := form key.size ++ key.toList ++ form l.length ++ l.flatMap atForm

theorem form_pos_le {n : Nat} (h : n < 18446744073709551616) : 1 ≤ (form n).length ∧ (form n).length ≤ 10 := ⟨form_length_pos n, form_le10 h⟩
theorem size_toList (s : ByteArray) : s.toList.length = s.size := by rw [ByteArray.toList_eq]; simp
/-- integers within their kinds -/
def Fits (l : List At) : Prop := ∀ a ∈ l, a.name.size ≤ 9223372036854775807 ∧ -9223372036854775808 ≤ a.val.num ∧ a.val.num ≤ 9223372036854775807
theorem zig_le10 (z : Int) (h : -9223372036854775808 ≤ z ∧ z ≤ 9223372036854775807) : (form (zigN z)).length ≤ 10 := form_le10 (zigN_lt h)
theorem valForm_le {v : Val} (hv : v.ok = true) (hz : -9223372036854775808 ≤ v.num ∧ v.num ≤ 9223372036854775807) : (valForm v).length ≤ 60 := by
 have f1 : (form 1).length ≤ 10 := form_le10 (by decide)
 have f2 : (form 2).length ≤ 10 := form_le10 (by decide)
 have f3 : (form 3).length ≤ 10 := form_le10 (by decide)
 have f4 := zig_le10 v.num hz
 have f5 : (form (if v.is then 1 else 0)).length ≤ 10 := form_le10 (by split <;> decide)
 unfold valForm
 split
 ·simp; omega
 ·split
  ·rename_i h1 h2
   have hs : v.str.size ≤ 32 := by unfold Val.ok at hv; simp [h2] at hv; exact hv.1.1
   have f6 : (form v.str.size).length ≤ 10 := form_le10 (by omega)
   simp only [List.length_append, size_toList]
   omega
  ·simp only [List.length_append]; omega
theorem okAt_parts {l : List At} {i : Nat} {a : At} (h : okAt l i = true) (hx : l[i]? = some a) : nameOk a.name.toList = true ∧ a.val.ok = true := by
 unfold okAt at h; rw [hx] at h; simp at h; exact ⟨h.1.1, h.1.2⟩
theorem attrsOk_at {l : List At} {i : Nat} {a : At} (h : attrsOk l = true) (hx : l[i]? = some a) : nameOk a.name.toList = true ∧ a.val.ok = true := by
 unfold attrsOk at h
 rw [List.all_eq_true] at h
 have hi : i < l.length := (List.getElem?_eq_some_iff.1 hx).1
 exact okAt_parts (h i (by simpa using hi)) hx
theorem nameOk_size {s : ByteArray} (h : nameOk s.toList = true) : s.size ≤ 16 := by
 unfold nameOk at h; simp at h; rw [← size_toList]; exact h.1.2
theorem atForm_le {a : At} (hn : nameOk a.name.toList = true) (hv : a.val.ok = true) (hz : -9223372036854775808 ≤ a.val.num ∧ a.val.num ≤ 9223372036854775807) : (atForm a).length ≤ 90 := by
 have h1 := valForm_le hv hz
 have h2 := nameOk_size hn
 have h3 : (form a.name.size).length ≤ 10 := form_le10 (by omega)
 unfold atForm
 simp only [List.length_append, size_toList]
 omega
theorem flat_take_le {l : List At} (ho : attrsOk l = true) (hf : Fits l) : ∀ k, k ≤ l.length → ((l.take k).flatMap atForm).length ≤ 90 * k := by
 intro k
 induction k with
 | zero => intro _; simp
 | succ k ih =>
  intro hk
  have hx : l[k]? = some l[k] := List.getElem?_eq_getElem (by omega)
  obtain ⟨h1, h2⟩ := attrsOk_at ho hx
  have h3 := atForm_le h1 h2 (hf _ (List.mem_of_getElem? hx)).2
  have := ih (by omega)
  rw [List.take_add_one, hx]
  simp only [Option.toList, List.flatMap_append, List.length_append, List.flatMap_cons, List.flatMap_nil, List.append_nil]
  omega
theorem flat_take_succ {l : List At} {k : Nat} {a : At} (hx : l[k]? = some a) : (l.take (k + 1)).flatMap atForm = (l.take k).flatMap atForm ++ atForm a := by
 rw [List.take_add_one, hx]; simp
theorem evForm_le {key : ByteArray} {l : List At} (h : evOk key l = true) (hf : Fits l) : (evForm key l).length ≤ 800 := by
 unfold evOk at h
 simp at h
 have h1 : (form key.size).length ≤ 10 := form_le10 (by omega)
 have h2 : (form l.length).length ≤ 10 := form_le10 (by omega)
 have h3 := flat_take_le h.2 hf l.length (Nat.le_refl _)
 rw [List.take_of_length_le (Nat.le_refl _)] at h3
 unfold evForm
 simp only [List.length_append, size_toList]
 omega

set_option maxRecDepth 100000 in
theorem wevent_any (B pw : Nat) (l : List UInt8) (key : ByteArray) (v : Value) (es : List At) (w : World) (h : Wr w B pw l) (hl : l.length ≤ 999990000)
  (ha : SeesA w v es) (hne : 0 < es.length → ∀ k, v.ownBlock = some k → k ≠ pw) (hok : evOk key es = true) (hf : Fits es) :
  Calls Tryz.prog 40 #[.pointer (some ⟨pw, 0, none⟩), .agg #[.string key, v]] w (Laid w B pw (l ++ evForm key es)) := by
 have hok' := hok
 unfold evOk at hok'
 simp at hok'
 obtain ⟨⟨hks, h8⟩, hao⟩ := hok'
 have hw := h.lt
 have hnb : pw ≠ w.heap.size := by omega
 obtain ⟨p, c, rfl, hc1, hc2⟩ := ha.len
 generalize hW0 : w.alloc (.cells #[.string key, .slice p es.length c] 37) = W0
 have k0 : Old w W0 := by rw [← hW0]; exact (Keeps.refl _ _).alloc _
 have hb0 : W0.heap[w.heap.size]? = some (.cells #[.string key, .slice p es.length c] 37 (0, 0)) := by rw [← hW0]; exact heap_alloc_new _ _
 have e0 : W0.cell? ⟨w.heap.size, 0, none⟩ = some (.string key) := by simp [World.cell?, hb0]
 have fk : (form key.size).length ≤ 10 := form_le10 (by omega)
 have fn : (form es.length).length ≤ 10 := form_le10 (by omega)
 have C := Lib.hid (wtext_any B pw l key W0 (h.old k0) (by omega) (by omega))
 have H := Lib.hid (And.intro k0 (And.intro hb0 (And.intro ha (And.intro hne (And.intro hao hf)))))
 have hi : es.length ≤ 9223372036854775807 := by omega
 clear k0 hb0 h hok ha hne hao hf hc1 hc2
 go_enter Tryz.func40, Tryz.ntmps40
 go_wp2_with fail
 refine C.out.mono ?_
 rintro e w1 ⟨rfl, hwr1, hk1⟩
 have m1 : w1.heap[w.heap.size]? = some (.cells #[.string key, .slice p es.length c] 37 (0, 0)) := (hk1.block _ (lt_of_heap H.out.2.1) (fun f => hnb f.symm)).trans H.out.2.1
 have q1 : w1.cell? ⟨w.heap.size, 1, none⟩ = some (.slice p es.length c) := by simp [World.cell?, m1]
 have hlen1 : (l ++ form key.size ++ key.toList).length ≤ l.length + 26 := by simp only [List.length_append, size_toList]; omega
 have C2 := Lib.hid (wnum_any B pw _ es.length w1 hwr1 (by omega) (by omega))
 have R1 := Lib.hid (And.intro hk1 m1)
 clear hwr1 hk1 m1 e0 C
 go_wp2_with fail
 refine C2.out.mono ?_
 rintro e w2 ⟨rfl, hwr2, hk2⟩
 have m2 : w2.heap[w.heap.size]? = some (.cells #[.string key, .slice p es.length c] 37 (0, 0)) := (hk2.block _ (lt_of_heap R1.out.2) (fun f => hnb f.symm)).trans R1.out.2
 have q2 : w2.cell? ⟨w.heap.size, 1, none⟩ = some (.slice p es.length c) := by simp [World.cell?, m2]
 have K2 : Keeps (fun k => k = pw) w w2 := ((H.out.1.weaken (fun _ _ f => f.elim)).trans R1.out.1).trans hk2
 have R2 := Lib.hid (And.intro hwr2 K2)
 clear hwr2 hk2 K2 m2 q1 C2
 go_wp2_with fail
 generalize hl0 : l ++ form key.size ++ key.toList ++ form es.length = l0
 have hlen2 : l0.length ≤ l.length + 36 := by rw [← hl0]; simp only [List.length_append, size_toList]; omega
 have L0 := Lib.hid hl0
 have R3 := R2.out
 rw [hl0] at R3
 have R4 := Lib.hid R3
 clear R2 R3 hl0 hlen1
 go_loopw [19] (fun v19 wr => ∃ k : Nat, k ≤ es.length ∧ v19 = .int .i64 k ∧ Wr wr B pw (l0 ++ (es.take k).flatMap atForm) ∧ Keeps (fun k => k = pw) w wr) (fun v19 _ => es.length - (intOf v19).toNat)
 case atStart => exact ⟨0, by omega, rfl, by simpa using R4.out.1, R4.out.2⟩
 case round =>
  obtain ⟨k, hk, rfl, hwr, hkp⟩ := hrel
  by_cases hlt : k < es.length
  ·obtain ⟨b, o, c', he, _, _, hc⟩ := H.out.2.2.1.at (by omega)
   simp only [Value.slice.injEq, true_and] at he
   obtain ⟨rfl, rfl⟩ := he
   have hx : es[k]? = some es[k] := List.getElem?_eq_getElem hlt
   generalize es[k] = a at hx
   have hbp : b ≠ pw := H.out.2.2.2.1 (by omega) b rfl
   have cell : ∀ i u, a.cells[i]? = some u → wr.cell? ⟨b, o + k * 5 + i, none⟩ = some u := fun i u hu => hkp.cell (hc k a hx i u hu) hbp
   have c0 := cell 0 _ rfl
   have c1 := cell 1 _ rfl
   have c2 := cell 2 _ rfl
   have c3 := cell 3 _ rfl
   have c4 := cell 4 _ rfl
   simp only [Nat.add_zero] at c0
   obtain ⟨hnok, hvok⟩ := attrsOk_at H.out.2.2.2.2.1 hx
   have hfit := H.out.2.2.2.2.2 a (List.mem_of_getElem? hx)
   have hns := nameOk_size hnok
   have hfl := flat_take_le H.out.2.2.2.2.1 H.out.2.2.2.2.2 k hk
   have hlen3 : (l0 ++ (es.take k).flatMap atForm).length ≤ l.length + 1000 := by simp only [List.length_append]; omega
   have hwl := hwr.lt
   generalize hW3 : wr.alloc (.cells #[.string a.name, .int .i64 a.val.kind, .int .i64 a.val.num, .string a.val.str, .bool a.val.is] 102) = W3
   have k3 : Old wr W3 := by rw [← hW3]; exact (Keeps.refl _ _).alloc _
   have b3 : W3.heap[wr.heap.size]? = some (.cells #[.string a.name, .int .i64 a.val.kind, .int .i64 a.val.num, .string a.val.str, .bool a.val.is] 102 (0, 0)) := by rw [← hW3]; exact heap_alloc_new _ _
   have d0 : W3.cell? ⟨wr.heap.size, 0, none⟩ = some (.string a.name) := by simp [World.cell?, b3]
   have C4 := Lib.hid (wtext_any B pw _ a.name W3 (hwr.old k3) (by omega) (by omega))
   have hz := hfit.2
   have HX := Lib.hid (And.intro hx (And.intro k3 (And.intro b3 (And.intro hkp hvok))))
   clear cell hx k3 b3 hkp hvok hwr hc hnok hfit
   go_wp2_with fail
   refine C4.out.mono ?_
   rintro e w4 ⟨rfl, hwr4, hk4⟩
   have b4 := (hk4.block _ (lt_of_heap HX.out.2.2.1) (fun f => by omega)).trans HX.out.2.2.1
   have g1 : w4.cell? ⟨wr.heap.size, 1, none⟩ = some (.int .i64 a.val.kind) := by simp [World.cell?, b4]
   have g2 : w4.cell? ⟨wr.heap.size, 2, none⟩ = some (.int .i64 a.val.num) := by simp [World.cell?, b4]
   have g3 : w4.cell? ⟨wr.heap.size, 3, none⟩ = some (.string a.val.str) := by simp [World.cell?, b4]
   have g4 : w4.cell? ⟨wr.heap.size, 4, none⟩ = some (.bool a.val.is) := by simp [World.cell?, b4]
   have C5' := wvalue_any B pw _ a.val w4 hwr4 (by have : (form a.name.size).length ≤ 10 := form_le10 (by omega); simp only [List.length_append, size_toList] at hlen3 ⊢; omega) HX.out.2.2.2.2 hz
   unfold Val.cells at C5'
   have C5 := Lib.hid C5'
   have R5 := Lib.hid hk4
   clear hwr4 hk4 b4 C5' C4 c0 c1 c2 c3 c4 d0
   go_wp2_with fail
   refine C5.out.mono ?_
   rintro e w5 ⟨rfl, hwr5, hk5⟩
   have R6 := Lib.hid (And.intro hwr5 hk5)
   clear hwr5 hk5 C5 g1 g2 g3 g4
   go_wp2_with fail
   go_roundw
   case rel => exact ⟨k + 1, by omega, by go_num, by rw [flat_take_succ HX.out.1]; simpa [atForm] using R6.out.1, (HX.out.2.2.2.1.trans ((HX.out.2.1.weaken (fun _ _ f => f.elim)).trans R5.out)).trans R6.out.2⟩
   case measure => simp [intOf]; omega
  ·have R5 := Lib.hid (And.intro hwr hkp)
   clear hwr hkp
   go_wp2_with fail
   go_end0
   refine ⟨rfl, ?_, R5.out.2⟩
   have h1 := R5.out.1
   rw [List.take_of_length_le (by omega), ← L0.out] at h1
   simpa [evForm] using h1
end Go.Proofs.YtfnanbadbmmicaaGreatDoor

namespace Go.Proofs.YtfnanbadbmmicaaGreatDoor

/-- groups that could not be shorter are the form of their number -/
theorem form_lev : ∀ (xs : List UInt8) (c : UInt8), (∀ x ∈ xs, 128 ≤ x.toNat) → c.toNat < 128 → (xs ≠ [] → c.toNat ≠ 0) → form (lev (xs ++ [c])) = xs ++ [c] ∧ (c.toNat ≠ 0 → 1 ≤ lev (xs ++ [c]))
 | [], c, _, hc, _ => by
  have e : lev ([] ++ [c]) = c.toNat := by simp [lev]; omega
  rw [e]
  exact ⟨by rw [form_lt hc]; simp, fun h => by omega⟩
 | x :: xs, c, hx, hc, h0 => by
  have hx0 : 128 ≤ x.toNat := hx x (by simp)
  have hxl := x.toNat_lt
  have hc0 : c.toNat ≠ 0 := h0 (by simp)
  obtain ⟨ih, ih1⟩ := form_lev xs c (fun y hy => hx y (by simp [hy])) hc (fun _ => hc0)
  have h1 := ih1 hc0
  have e : lev (x :: xs ++ [c]) = x.toNat % 128 + 128 * lev (xs ++ [c]) := by simp [lev]
  rw [e]
  refine ⟨?_, fun _ => by omega⟩
  rw [form_ge (by omega), show (x.toNat % 128 + 128 * lev (xs ++ [c])) / 128 = lev (xs ++ [c]) from by omega, ih]
  simp only [List.cons_append, List.cons.injEq, and_true]
  rw [show 128 + (x.toNat % 128 + 128 * lev (xs ++ [c])) % 128 = x.toNat from by omega]
  simp
theorem lead_all : ∀ (l : List UInt8), ∀ x ∈ l.take (lead l), 128 ≤ x.toNat
 | [], x, h => by simp at h
 | c :: r, x, h => by
  unfold lead at h
  split at h
  ·rename_i hc
   simp only [List.take_succ_cons, List.mem_cons] at h
   rcases h with rfl | h
   ·exact hc
   ·exact lead_all r x h
  ·simp at h
/-- what is read, laid again, is what went -/
theorem read_form {l r : List UInt8} {most n : Nat} (h : readNum l most = (n, 0, r)) : l = form n ++ r ∧ n ≤ most ∧ n < 18446744073709551616 := by
 have hll := lead_le l
 rcases Nat.lt_or_ge (lead l) 10 with h10 | h10
 ·rcases Nat.lt_or_ge (lead l) l.length with hlt | hge
  ·obtain ⟨c, hc, hc1⟩ := lead_end l hlt
   by_cases hb : (lead l = 9 ∧ 1 < c.toNat) ∨ (0 < lead l ∧ c.toNat = 0)
   ·rw [read_none h10 hc hb] at h; simp at h
   ·rw [read_good h10 hc hb] at h
    split at h
    ·simp at h
    ·rename_i hm
     simp only [Prod.mk.injEq, true_and] at h
     obtain ⟨rfl, rfl⟩ := h
     have ht : l.take (lead l + 1) = l.take (lead l) ++ [c] := by
      have hg := (List.getElem?_eq_some_iff.1 hc).2
      rw [List.take_succ_eq_append_getElem hlt, hg]
     have hf := (form_lev (l.take (lead l)) c (lead_all l) hc1 (fun hne => by
      have : 0 < lead l := by
       rcases Nat.eq_zero_or_pos (lead l) with h0 | h0
       ·rw [h0] at hne; simp at hne
       ·exact h0
      omega)).1
     refine ⟨?_, by omega, lev_fits l (lead l) h10 c hc (by omega)⟩
     rw [ht, hf, ← ht, List.take_append_drop]
  ·rw [read_short h10 (by omega)] at h; simp at h
 ·rw [read_many h10] at h; simp at h
theorem lead_form (n : Nat) : ∀ r, lead (form n ++ r) + 1 = (form n).length := by
 induction n using Nat.strongRecOn with
 | ind n ih =>
  intro r
  rcases Nat.lt_or_ge n 128 with h | h
  ·rw [form_lt h]
   have : (UInt8.ofNat n).toNat = n := by rw [UInt8.toNat_ofNat']; omega
   simp only [List.cons_append, List.nil_append, List.length_cons, List.length_nil]
   rw [lead, if_neg (by omega)]
  ·rw [form_ge h]
   have : (UInt8.ofNat (128 + n % 128)).toNat = 128 + n % 128 := by rw [UInt8.toNat_ofNat']; omega
   simp only [List.cons_append, List.length_cons]
   rw [lead, if_pos (by omega), ih (n / 128) (by omega) r]
theorem lev_form (n : Nat) : lev (form n) = n := by
 induction n using Nat.strongRecOn with
 | ind n ih =>
  rcases Nat.lt_or_ge n 128 with h | h
  ·rw [form_lt h]
   have : (UInt8.ofNat n).toNat = n := by rw [UInt8.toNat_ofNat']; omega
   simp only [lev]; omega
  ·rw [form_ge h]
   have : (UInt8.ofNat (128 + n % 128)).toNat = 128 + n % 128 := by rw [UInt8.toNat_ofNat']; omega
   simp only [lev]
   rw [ih (n / 128) (by omega)]
   omega
/-- the last byte of a form -/
theorem form_last (n : Nat) : ∃ xs c, form n = xs ++ [c] ∧ c.toNat < 128 ∧ (∀ x ∈ xs, 128 ≤ x.toNat) ∧ (xs ≠ [] → c.toNat ≠ 0) ∧ n = lev xs + 128 ^ xs.length * c.toNat := by
 induction n using Nat.strongRecOn with
 | ind n ih =>
  rcases Nat.lt_or_ge n 128 with h | h
  ·have : (UInt8.ofNat n).toNat = n := by rw [UInt8.toNat_ofNat']; omega
   exact ⟨[], UInt8.ofNat n, by rw [form_lt h]; rfl, by omega, by simp, by simp, by simp [lev]; omega⟩
  ·obtain ⟨xs, c, h1, h2, h3, h4, h5⟩ := ih (n / 128) (by omega)
   have hb : (UInt8.ofNat (128 + n % 128)).toNat = 128 + n % 128 := by rw [UInt8.toNat_ofNat']; omega
   refine ⟨UInt8.ofNat (128 + n % 128) :: xs, c, by rw [form_ge h, h1]; rfl, h2, ?_, ?_, ?_⟩
   ·intro x hx
    rcases List.mem_cons.1 hx with rfl | hx
    ·omega
    ·exact h3 x hx
   ·intro _ hc
    by_cases hxs : xs = []
    ·subst hxs
     simp [lev] at h5
     omega
    ·exact h4 hxs hc
   ·simp only [lev, List.length_cons, Nat.pow_succ]
    have : n = n % 128 + 128 * (n / 128) := by omega
    rw [hb]
    have e : 128 ^ xs.length * 128 * c.toNat = 128 * (128 ^ xs.length * c.toNat) := by rw [Nat.mul_comm (128 ^ xs.length) 128, Nat.mul_assoc]
    rw [e]
    omega
/-- what was laid is read -/
theorem form_read (n : Nat) (r : List UInt8) (most : Nat) (hn : n < 18446744073709551616) : readNum (form n ++ r) most = if most < n then (0, 3, form n ++ r) else (n, 0, r) := by
 obtain ⟨xs, c, h1, h2, h3, h4, h5⟩ := form_last n
 have hl := lead_form n r
 have hl10 := form_le10 hn
 have hlen : (form n).length = xs.length + 1 := by rw [h1]; simp
 have hlead : lead (form n ++ r) = xs.length := by omega
 have hc : (form n ++ r)[lead (form n ++ r)]? = some c := by rw [hlead, h1]; simp
 have hb : ¬ ((lead (form n ++ r) = 9 ∧ 1 < c.toNat) ∨ (0 < lead (form n ++ r) ∧ c.toNat = 0)) := by
  rw [hlead]
  intro h
  rcases h with ⟨h9, hc1⟩ | ⟨h0, hc0⟩
  ·rw [h9] at h5
   have : (128 : Nat) ^ 9 = 9223372036854775808 := by decide
   have : 2 * 128 ^ 9 ≤ 128 ^ 9 * c.toNat := by rw [Nat.mul_comm 2]; exact Nat.mul_le_mul_left _ hc1
   omega
  ·exact h4 (fun h => by rw [h] at h0; simp at h0) hc0
 have hr := read_good (most := most) (by omega) hc hb
 have ht : (form n ++ r).take (lead (form n ++ r) + 1) = form n := by rw [hl]; simp
 have hd : (form n ++ r).drop (lead (form n ++ r) + 1) = r := by rw [hl]; simp
 rw [ht, hd, lev_form] at hr
 exact hr
/-- a beginning of a form that is not all of it -/
theorem form_short (n : Nat) (hn : n < 18446744073709551616) (k : Nat) (hk : k < (form n).length) (most : Nat) : readNum ((form n).take k) most = (0, 4, (form n).take k) := by
 obtain ⟨xs, c, h1, h2, h3, h4, h5⟩ := form_last n
 have hl10 := form_le10 hn
 have hlen : (form n).length = xs.length + 1 := by rw [h1]; simp
 have ht : (form n).take k = xs.take k := by rw [h1, List.take_append_of_le_length (by omega)]
 have hall : ∀ (ys : List UInt8), (∀ x ∈ ys, 128 ≤ x.toNat) → lead ys = ys.length := by
  intro ys
  induction ys with
  | nil => intro _; rfl
  | cons y ys ih => intro h; rw [lead, if_pos (h y (by simp)), ih (fun x hx => h x (by simp [hx]))]; rfl
 have hle := hall (xs.take k) (fun x hx => h3 x (List.mem_of_mem_take hx))
 rw [ht]
 have hlt : (xs.take k).length ≤ xs.length := by simp; omega
 exact read_short (by omega) hle
theorem read_max (l : List UInt8) (most : Nat) : readNum l 18446744073709551615 = if (readNum l most).2.1 = 3 then (lev (l.take (lead l + 1)), 0, l.drop (lead l + 1)) else readNum l most := by
 have hll := lead_le l
 rcases Nat.lt_or_ge (lead l) 10 with h10 | h10
 ·rcases Nat.lt_or_ge (lead l) l.length with hlt | hge
  ·obtain ⟨c, hc, hc1⟩ := lead_end l hlt
   by_cases hb : (lead l = 9 ∧ 1 < c.toNat) ∨ (0 < lead l ∧ c.toNat = 0)
   ·rw [read_none h10 hc hb, read_none h10 hc hb]; simp
   ·have hf := lev_fits l (lead l) h10 c hc (by omega)
    rw [read_good h10 hc hb, read_good h10 hc hb, if_neg (by omega)]
    split <;> simp
  ·rw [read_short h10 (by omega), read_short h10 (by omega)]; simp
 ·rw [read_many h10, read_many h10]; simp
/-- ErrLong is told just where the number is above most -/
theorem read_long_iff (l : List UInt8) (most : Nat) : ((readNum l most).2.1 = 3) ↔ ((readNum l 18446744073709551615).2.1 = 0 ∧ most < (readNum l 18446744073709551615).1) := by
 have hll := lead_le l
 rcases Nat.lt_or_ge (lead l) 10 with h10 | h10
 ·rcases Nat.lt_or_ge (lead l) l.length with hlt | hge
  ·obtain ⟨c, hc, hc1⟩ := lead_end l hlt
   by_cases hb : (lead l = 9 ∧ 1 < c.toNat) ∨ (0 < lead l ∧ c.toNat = 0)
   ·rw [read_none h10 hc hb, read_none h10 hc hb]; simp
   ·have hf := lev_fits l (lead l) h10 c hc (by omega)
    have hm : ¬ 18446744073709551615 < lev (l.take (lead l + 1)) := by omega
    rw [read_good h10 hc hb, read_good h10 hc hb]
    simp only [if_neg hm]
    split
    ·rename_i h; simp; exact h
    ·rename_i h; simp; omega
  ·rw [read_short h10 (by omega), read_short h10 (by omega)]; simp
 ·rw [read_many h10, read_many h10]; simp
theorem read_ok_same (l : List UInt8) (most : Nat) (h : (readNum l most).2.1 = 0) : readNum l 18446744073709551615 = readNum l most := by
 rw [read_max l most, if_neg (by omega)]
end Go.Proofs.YtfnanbadbmmicaaGreatDoor

namespace Go.Proofs.YtfnanbadbmmicaaGreatDoor
open Go.RowKit

theorem two_blocks (w : World) (o1 o2 : Obj) : ((w.alloc o1).alloc o2).heap[w.heap.size]? = some o1 ∧ ((w.alloc o1).alloc o2).heap[w.heap.size + 1]? = some o2 := by
 have h1 := heap_alloc_new w o1
 have h2 := heap_alloc_new (w.alloc o1) o2
 have s1 : (w.alloc o1).heap.size = w.heap.size + 1 := by simp
 rw [s1] at h2
 exact ⟨(heap_alloc_old _ _ (by rw [s1]; omega)).trans h1, h2⟩
/-- are two named values the same? -/
def eqAt (a b : At) : Bool := (a.name == b.name) && (a.val.kind == b.val.kind && (a.val.num == b.val.num && (a.val.str == b.val.str && a.val.is == b.val.is)))

set_option maxHeartbeats 2000000 in
theorem eq_attr_in (m : Nat) (F9 : ∀ x y W, (Op.equalIn m 9 (.string x) (.string y)).run Tryz.prog W = .ok (x == y) W)
  (FV : ∀ (k k' n n' : Int) (s s' : ByteArray) (b b' : Bool) W, (Op.equalIn m 100 (.agg #[.int .i64 k, .int .i64 n, .string s, .bool b]) (.agg #[.int .i64 k', .int .i64 n', .string s', .bool b'])).run Tryz.prog W = .ok (k == k' && (n == n' && (s == s' && b == b'))) W)
  (x x' : ByteArray) (k k' n n' : Int) (s s' : ByteArray) (b b' : Bool) (W : World) :
  (Op.equalIn (m+1) 102 (.agg #[.string x, .int .i64 k, .int .i64 n, .string s, .bool b]) (.agg #[.string x', .int .i64 k', .int .i64 n', .string s', .bool b'])).run Tryz.prog W = .ok (x == x' && (k == k' && (n == n' && (s == s' && b == b')))) W := by
 have hst : Tryz.prog.stoodInHeld 102 = false := by kernel_rfl
 unfold Op.equalIn
 cases h1 : (x == x')
 ·simp [go_sem, hst, F9, h1]
 ·have FV' := FV k k' n n' s s' b b'
  cases h2 : (k == k' && (n == n' && (s == s' && b == b')))
  ·rw [h2] at FV'
   simp [go_sem, hst, F9, FV', h1]
  ·rw [h2] at FV'
   simp [go_sem, hst, F9, FV', h1]

theorem neq_attr (x x' : ByteArray) (k k' n n' : Int) (s s' : ByteArray) (b b' : Bool) (W : World) :
  (binOp .neq 102 (.agg #[.string x, .int .i64 k, .int .i64 n, .string s, .bool b]) (.agg #[.string x', .int .i64 k', .int .i64 n', .string s', .bool b'])).run Tryz.prog W = .ok (.bool (!(x == x' && (k == k' && (n == n' && (s == s' && b == b')))))) W := by
 have h := eq_attr_in 9999 (eq_string 9998) (eq_val_in 9998 (eq_int 9997) (eq_i64 9997) (eq_string 9997) (eq_bool 9997)) x x' k k' n n' s s' b b' W
 simp [binOp, go_sem, Op.equal, Op.maxDepth, h]

/-- are these rows of named values the same? -/
def sameAt (l m : List At) (i : Nat) : Bool := match l[i]?, m[i]? with | some a, some b => eqAt a b | _, _ => true
def sameL (l m : List At) : Bool := decide (l.length = m.length) && (List.range l.length).all (sameAt l m)
/-- are these events the same? -/
def sameE (k : ByteArray) (l : List At) (k' : ByteArray) (m : List At) : Bool := (k.toList == k'.toList) && sameL l m
theorem sameL_false {l m : List At} {i : Nat} (hi : i < l.length) (h : sameAt l m i = false) : sameL l m = false := by
 unfold sameL; rw [Bool.and_eq_false_iff]; right; rw [List.all_eq_false]; exact ⟨i, by simpa using hi, by simp [h]⟩
theorem sameL_true {l m : List At} (hl : l.length = m.length) (h : ∀ i, i < l.length → sameAt l m i = true) : sameL l m = true := by
 unfold sameL; rw [decide_eq_true hl, Bool.true_and, List.all_eq_true]; intro i hi; exact h i (by simpa using hi)

set_option maxRecDepth 100000 in
set_option maxHeartbeats 1000000 in
theorem same_ev_any (k k' : ByteArray) (v v' : Value) (l m : List At) (w : World) (h : SeesA w v l) (h' : SeesA w v' m) :
  Calls Tryz.prog 35 #[.agg #[.string k, v], .agg #[.string k', v']] w fun e w' => e = .returned (.bool (sameE k l k' m)) ∧ Old w w' := by
 obtain ⟨p, c, rfl, hb1, hb2⟩ := h.len
 obtain ⟨p', c', rfl, _, _⟩ := h'.len
 have hmm : l.length ≤ 9223372036854775807 := by unfold maxLen at hb2; omega
 clear hb1 hb2
 cases hkk : (k.toList == k'.toList)
 ·have hne : (k.toList == k'.toList) = false := hkk
  have HK := Lib.hid hkk
  clear hkk h h'
  go_enter Tryz.func35, Tryz.ntmps35
  go_wp2_with fail
  go_ret
  exact ⟨ret_bool (by simp [sameE, HK.out]), ((Keeps.refl _ _).alloc _).alloc _⟩
 ·have hne : (k.toList == k'.toList) = true := hkk
  have HK := Lib.hid hkk
  clear hkk
  by_cases hl : l.length = m.length
  case neg =>
   have hln : ((l.length : Int) != (m.length : Int)) = true := by rw [bne_iff_ne]; omega
   have HL := Lib.hid hl
   clear hl h h'
   go_enter Tryz.func35, Tryz.ntmps35
   go_wp2_with fail
   go_ret
   exact ⟨ret_bool (by simp [sameE, sameL, HL.out]), ((Keeps.refl _ _).alloc _).alloc _⟩
  case pos =>
   have hln : ((l.length : Int) != (m.length : Int)) = false := by rw [hl]; simp
   have H := Lib.hid (And.intro h (And.intro h' hl))
   obtain ⟨W0, hW0⟩ : ∃ W0, (w.alloc (.cells #[.string k, .slice p l.length c] 37)).alloc (.cells #[.string k', .slice p' m.length c'] 37) = W0 := ⟨_, rfl⟩
   have k0 : Old w W0 := by rw [← hW0]; exact ((Keeps.refl _ _).alloc _).alloc _
   obtain ⟨b0, b1⟩ := two_blocks w (.cells #[.string k, .slice p l.length c] 37) (.cells #[.string k', .slice p' m.length c'] 37)
   rw [hW0] at b0 b1
   have c0 : W0.cell? ⟨w.heap.size, 0, none⟩ = some (.string k) := by simp [World.cell?, b0]
   have c1 : W0.cell? ⟨w.heap.size, 1, none⟩ = some (.slice p l.length c) := by simp [World.cell?, b0]
   have d0 : W0.cell? ⟨w.heap.size + 1, 0, none⟩ = some (.string k') := by simp [World.cell?, b1]
   have d1 : W0.cell? ⟨w.heap.size + 1, 1, none⟩ = some (.slice p' m.length c') := by simp [World.cell?, b1]
   have K := Lib.hid k0
   clear h h' hl k0 b0 b1
   go_enter Tryz.func35, Tryz.ntmps35
   go_wp2_with fail
   go_loopw [5] (fun v5 wr => ∃ i : Nat, i ≤ l.length ∧ v5 = .int .i64 i ∧ (∀ j, j < i → sameAt l m j = true) ∧ Old W0 wr) (fun v5 _ => l.length - (intOf v5).toNat)
   case atStart => exact ⟨0, by omega, rfl, by intro j hj; omega, Keeps.refl _ _⟩
   case round =>
    obtain ⟨i, hi, rfl, hr, hk⟩ := hrel
    have e1 := hk.cell c1 (fun f => f)
    have f1 := hk.cell d1 (fun f => f)
    have HR := Lib.hid hr
    clear hr
    by_cases hlt : i < l.length
    ·obtain ⟨b, o, cc, he, _, _, hc⟩ := H.out.1.at (by omega)
     obtain ⟨b', o', cc', he', _, _, hc'⟩ := H.out.2.1.at (by have := H.out.2.2; omega)
     simp only [Value.slice.injEq, true_and] at he he'
     obtain ⟨rfl, rfl⟩ := he
     obtain ⟨rfl, rfl⟩ := he'
     have hx : l[i]? = some l[i] := List.getElem?_eq_getElem hlt
     obtain ⟨y, hy⟩ : ∃ y, m[i]? = some y := ⟨_, List.getElem?_eq_getElem (by have := H.out.2.2; omega)⟩
     generalize l[i] = x at hx
     have cx := fun j u (hu : x.cells[j]? = some u) => OldOf.cell ((K.out.trans hk).cell (hc i x hx j u hu) (fun f => f))
     have cy := fun j u (hu : y.cells[j]? = some u) => OldOf.cell ((K.out.trans hk).cell (hc' i y hy j u hu) (fun f => f))
     have x0 := cx 0 _ rfl
     have x1 := cx 1 _ rfl
     have x2 := cx 2 _ rfl
     have x3 := cx 3 _ rfl
     have x4 := cx 4 _ rfl
     have y0 := cy 0 _ rfl
     have y1 := cy 1 _ rfl
     have y2 := cy 2 _ rfl
     have y3 := cy 3 _ rfl
     have y4 := cy 4 _ rfl
     simp only [Nat.add_zero] at x0 y0
     have n1 := OldOf.cell e1
     have n2 := OldOf.cell f1
     have i1 : (0 : Int) ≤ (i : Int) := by omega
     have i2 : (i : Int) < (l.length : Int) := by omega
     have i3 : (i : Int) < (m.length : Int) := by have := H.out.2.2; omega
     have hsame : sameAt l m i = eqAt x y := by unfold sameAt; rw [hx, hy]
     have hNE := neq_attr x.name y.name x.val.kind y.val.kind x.val.num y.val.num x.val.str y.val.str x.val.is y.val.is
     have hq : (x.name == y.name && (x.val.kind == y.val.kind && (x.val.num == y.val.num && (x.val.str == y.val.str && x.val.is == y.val.is)))) = eqAt x y := rfl
     simp only [hq] at hNE
     have KW := Lib.hid (And.intro hk hsame)
     clear hx hy cx cy hc hc' hk hsame hq
     cases hb : eqAt x y
     ·rw [hb] at hNE
      have HB := Lib.hid hb
      clear hb
      go_wp2_with fail
      refine wp_region_quiet_old (by kernel_rfl) (by kernel_rfl) ?_
      repeat (go_big_quiet_step ((fail)))
      refine wpQuiet_nil ?_
      intro _ hpq
      obtain ⟨pq, hpq'⟩ := hpq
      subst hpq'
      go_wp2_with fail
      go_ret
      exact ⟨ret_bool (by rw [sameE, sameL_false hlt (KW.out.2.trans HB.out), Bool.and_false]), K.out.trans (KW.out.1.trans pq.old)⟩
     ·rw [hb] at hNE
      have HB := Lib.hid hb
      clear hb
      go_wp2_with fail
      refine wp_region_quiet_old (by kernel_rfl) (by kernel_rfl) ?_
      repeat (go_big_quiet_step ((fail)))
      refine wpQuiet_nil ?_
      intro _ hpq
      obtain ⟨pq, hpq'⟩ := hpq
      subst hpq'
      go_wp2_with fail
      go_roundw
      case rel =>
       refine ⟨i + 1, by omega, by go_num, fun j hj => ?_, KW.out.1.trans pq.old⟩
       rcases Nat.lt_or_ge j i with h | h
       ·exact HR.out j h
       ·obtain rfl : j = i := by omega
        exact KW.out.2.trans HB.out
      case measure => simp [intOf]; omega
    ·have KW := Lib.hid hk
     clear hk
     go_wp2_with fail
     go_ret
     exact ⟨ret_bool (by rw [sameE, HK.out, sameL_true H.out.2.2 (fun j hj => HR.out j (by omega))]; rfl), K.out.trans KW.out⟩
end Go.Proofs.YtfnanbadbmmicaaGreatDoor
