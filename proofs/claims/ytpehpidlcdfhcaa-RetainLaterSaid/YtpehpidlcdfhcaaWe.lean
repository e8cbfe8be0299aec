/- DERIVED. The contracts of the writer of events, and of codec.Size. -/
import Derived.Test.YtpehpidlcdfhcaaWc
namespace Go.Proofs.Ytpehpidlcdfhcaa
open Go.RowKit

/-- a named value's form -/
def atForm (a : At) : List UInt8 := form a.name.size ++ a.name.toList ++ valForm a.val
/-- an event's form -/
def evForm (key : ByteArray) (l : List At) : List UInt8 := form key.size ++ key.toList ++ form l.length ++ l.flatMap atForm

theorem form_pos_le {n : Nat} (h : n < 18446744073709551616) : 1 ≤ (form n).length ∧ (form n).length ≤ 10 := ⟨form_length_pos n, form_le10 h⟩
theorem size_toList (s : ByteArray) : s.toList.length = s.size := by rw [ByteArray.toList_eq]; simp
/-- integers within their kinds -/
def Fits (l : List At) : Prop := ∀ a ∈ l, a.name.size ≤ 9223372036854775807 ∧ -9223372036854775808 ≤ a.val.num ∧ a.val.num ≤ 9223372036854775807
theorem zig_le10 (z : Int) (h : -9223372036854775808 ≤ z ∧ z ≤ 9223372036854775807) : (form (zigN z)).length ≤ 10 := form_le10 (zigN_lt h)
theorem valForm_le {v : Val} (hv : v.ok = true) (hz : -9223372036854775808 ≤ v.num ∧ v.num ≤ 9223372036854775807) : (valForm v).length ≤ 60 := by
  have f1 : (form 1).length ≤ 10 := form_le10 (by decide)
  have f2 : (form 2).length ≤ 10 := form_le10 (by decide)
  have f3 : (form 3).length ≤ 10 := form_le10 (by decide)
  have f4 := zig_le10 v.num hz
  have f5 : (form (if v.is then 1 else 0)).length ≤ 10 := form_le10 (by split <;> decide)
  unfold valForm
  split
  · simp; omega
  · split
    · rename_i h1 h2
      have hs : v.str.size ≤ 32 := by unfold Val.ok at hv; simp [h2] at hv; exact hv.1.1
      have f6 : (form v.str.size).length ≤ 10 := form_le10 (by omega)
      simp only [List.length_append, size_toList]
      omega
    · simp only [List.length_append]; omega
theorem okAt_parts {l : List At} {i : Nat} {a : At} (h : okAt l i = true) (hx : l[i]? = some a) : nameOk a.name.toList = true ∧ a.val.ok = true := by
  unfold okAt at h; rw [hx] at h; simp at h; exact ⟨h.1.1, h.1.2⟩
theorem attrsOk_at {l : List At} {i : Nat} {a : At} (h : attrsOk l = true) (hx : l[i]? = some a) : nameOk a.name.toList = true ∧ a.val.ok = true := by
  unfold attrsOk at h
  rw [List.all_eq_true] at h
  have hi : i < l.length := (List.getElem?_eq_some_iff.1 hx).1
  exact okAt_parts (h i (by simpa using hi)) hx
theorem nameOk_size {s : ByteArray} (h : nameOk s.toList = true) : s.size ≤ 16 := by
  unfold nameOk at h; simp at h; rw [← size_toList]; exact h.1.2
theorem atForm_le {a : At} (hn : nameOk a.name.toList = true) (hv : a.val.ok = true) (hz : -9223372036854775808 ≤ a.val.num ∧ a.val.num ≤ 9223372036854775807) : (atForm a).length ≤ 90 := by
  have h1 := valForm_le hv hz
  have h2 := nameOk_size hn
  have h3 : (form a.name.size).length ≤ 10 := form_le10 (by omega)
  unfold atForm
  simp only [List.length_append, size_toList]
  omega
theorem flat_take_le {l : List At} (ho : attrsOk l = true) (hf : Fits l) : ∀ k, k ≤ l.length → ((l.take k).flatMap atForm).length ≤ 90 * k := by
  intro k
  induction k with
  | zero => intro _; simp
  | succ k ih =>
    intro hk
    have hx : l[k]? = some l[k] := List.getElem?_eq_getElem (by omega)
    obtain ⟨h1, h2⟩ := attrsOk_at ho hx
    have h3 := atForm_le h1 h2 (hf _ (List.mem_of_getElem? hx)).2
    have := ih (by omega)
    rw [List.take_add_one, hx]
    simp only [Option.toList, List.flatMap_append, List.length_append, List.flatMap_cons, List.flatMap_nil, List.append_nil]
    omega
theorem flat_take_succ {l : List At} {k : Nat} {a : At} (hx : l[k]? = some a) : (l.take (k + 1)).flatMap atForm = (l.take k).flatMap atForm ++ atForm a := by
  rw [List.take_add_one, hx]; simp
theorem evForm_le {key : ByteArray} {l : List At} (h : evOk key l = true) (hf : Fits l) : (evForm key l).length ≤ 800 := by
  unfold evOk at h
  simp at h
  have h1 : (form key.size).length ≤ 10 := form_le10 (by omega)
  have h2 : (form l.length).length ≤ 10 := form_le10 (by omega)
  have h3 := flat_take_le h.2 hf l.length (Nat.le_refl _)
  rw [List.take_of_length_le (Nat.le_refl _)] at h3
  unfold evForm
  simp only [List.length_append, size_toList]
  omega

set_option maxRecDepth 100000 in
theorem wevent_any (B pw : Nat) (l : List UInt8) (key : ByteArray) (v : Value) (es : List At) (w : World) (h : Wr w B pw l) (hl : l.length ≤ 999990000)
    (ha : SeesA w v es) (hne : 0 < es.length → ∀ k, v.ownBlock = some k → k ≠ pw) (hok : evOk key es = true) (hf : Fits es) :
    Calls Try.prog 40 #[.pointer (some ⟨pw, 0, none⟩), .agg #[.string key, v]] w (Laid w B pw (l ++ evForm key es)) := by
  have hok' := hok
  unfold evOk at hok'
  simp at hok'
  obtain ⟨⟨hks, h8⟩, hao⟩ := hok'
  have hw := h.lt
  have hnb : pw ≠ w.heap.size := by omega
  obtain ⟨p, c, rfl, hc1, hc2⟩ := ha.len
  generalize hW0 : w.alloc (.cells #[.string key, .slice p es.length c] 38) = W0
  have k0 : Old w W0 := by rw [← hW0]; exact (Keeps.refl _ _).alloc _
  have hb0 : W0.heap[w.heap.size]? = some (.cells #[.string key, .slice p es.length c] 38 (0, 0)) := by rw [← hW0]; exact heap_alloc_new _ _
  have e0 : W0.cell? ⟨w.heap.size, 0, none⟩ = some (.string key) := by simp [World.cell?, hb0]
  have fk : (form key.size).length ≤ 10 := form_le10 (by omega)
  have fn : (form es.length).length ≤ 10 := form_le10 (by omega)
  have C := Lib.hid (wtext_any B pw l key W0 (h.old k0) (by omega) (by omega))
  have H := Lib.hid (And.intro k0 (And.intro hb0 (And.intro ha (And.intro hne (And.intro hao hf)))))
  have hi : es.length ≤ 9223372036854775807 := by omega
  clear k0 hb0 h hok ha hne hao hf hc1 hc2
  go_enter Try.func40, Try.ntmps40
  go_wp2_with fail
  refine C.out.mono ?_
  rintro e w1 ⟨rfl, hwr1, hk1⟩
  have m1 : w1.heap[w.heap.size]? = some (.cells #[.string key, .slice p es.length c] 38 (0, 0)) := (hk1.block _ (lt_of_heap H.out.2.1) (fun f => hnb f.symm)).trans H.out.2.1
  have q1 : w1.cell? ⟨w.heap.size, 1, none⟩ = some (.slice p es.length c) := by simp [World.cell?, m1]
  have hlen1 : (l ++ form key.size ++ key.toList).length ≤ l.length + 26 := by simp only [List.length_append, size_toList]; omega
  have C2 := Lib.hid (wnum_any B pw _ es.length w1 hwr1 (by omega) (by omega))
  have R1 := Lib.hid (And.intro hk1 m1)
  clear hwr1 hk1 m1 e0 C
  go_wp2_with fail
  refine C2.out.mono ?_
  rintro e w2 ⟨rfl, hwr2, hk2⟩
  have m2 : w2.heap[w.heap.size]? = some (.cells #[.string key, .slice p es.length c] 38 (0, 0)) := (hk2.block _ (lt_of_heap R1.out.2) (fun f => hnb f.symm)).trans R1.out.2
  have q2 : w2.cell? ⟨w.heap.size, 1, none⟩ = some (.slice p es.length c) := by simp [World.cell?, m2]
  have K2 : Keeps (fun k => k = pw) w w2 := ((H.out.1.weaken (fun _ _ f => f.elim)).trans R1.out.1).trans hk2
  have R2 := Lib.hid (And.intro hwr2 K2)
  clear hwr2 hk2 K2 m2 q1 C2
  go_wp2_with fail
  generalize hl0 : l ++ form key.size ++ key.toList ++ form es.length = l0
  have hlen2 : l0.length ≤ l.length + 36 := by rw [← hl0]; simp only [List.length_append, size_toList]; omega
  have L0 := Lib.hid hl0
  have R3 := R2.out
  rw [hl0] at R3
  have R4 := Lib.hid R3
  clear R2 R3 hl0 hlen1
  go_loopw [19] (fun v19 wr => ∃ k : Nat, k ≤ es.length ∧ v19 = .int .i64 k ∧ Wr wr B pw (l0 ++ (es.take k).flatMap atForm) ∧ Keeps (fun k => k = pw) w wr) (fun v19 _ => es.length - (intOf v19).toNat)
  case atStart => exact ⟨0, by omega, rfl, by simpa using R4.out.1, R4.out.2⟩
  case round =>
    obtain ⟨k, hk, rfl, hwr, hkp⟩ := hrel
    by_cases hlt : k < es.length
    · obtain ⟨b, o, c', he, _, _, hc⟩ := H.out.2.2.1.at (by omega)
      simp only [Value.slice.injEq, true_and] at he
      obtain ⟨rfl, rfl⟩ := he
      have hx : es[k]? = some es[k] := List.getElem?_eq_getElem hlt
      generalize es[k] = a at hx
      have hbp : b ≠ pw := H.out.2.2.2.1 (by omega) b rfl
      have cell : ∀ i u, a.cells[i]? = some u → wr.cell? ⟨b, o + k * 5 + i, none⟩ = some u := fun i u hu => hkp.cell (hc k a hx i u hu) hbp
      have c0 := cell 0 _ rfl
      have c1 := cell 1 _ rfl
      have c2 := cell 2 _ rfl
      have c3 := cell 3 _ rfl
      have c4 := cell 4 _ rfl
      simp only [Nat.add_zero] at c0
      obtain ⟨hnok, hvok⟩ := attrsOk_at H.out.2.2.2.2.1 hx
      have hfit := H.out.2.2.2.2.2 a (List.mem_of_getElem? hx)
      have hns := nameOk_size hnok
      have hfl := flat_take_le H.out.2.2.2.2.1 H.out.2.2.2.2.2 k hk
      have hlen3 : (l0 ++ (es.take k).flatMap atForm).length ≤ l.length + 1000 := by simp only [List.length_append]; omega
      have hwl := hwr.lt
      generalize hW3 : wr.alloc (.cells #[.string a.name, .int .i64 a.val.kind, .int .i64 a.val.num, .string a.val.str, .bool a.val.is] 66) = W3
      have k3 : Old wr W3 := by rw [← hW3]; exact (Keeps.refl _ _).alloc _
      have b3 : W3.heap[wr.heap.size]? = some (.cells #[.string a.name, .int .i64 a.val.kind, .int .i64 a.val.num, .string a.val.str, .bool a.val.is] 66 (0, 0)) := by rw [← hW3]; exact heap_alloc_new _ _
      have d0 : W3.cell? ⟨wr.heap.size, 0, none⟩ = some (.string a.name) := by simp [World.cell?, b3]
      have C4 := Lib.hid (wtext_any B pw _ a.name W3 (hwr.old k3) (by omega) (by omega))
      have hz := hfit.2
      have HX := Lib.hid (And.intro hx (And.intro k3 (And.intro b3 (And.intro hkp hvok))))
      clear cell hx k3 b3 hkp hvok hwr hc hnok hfit
      go_wp2_with fail
      refine C4.out.mono ?_
      rintro e w4 ⟨rfl, hwr4, hk4⟩
      have b4 := (hk4.block _ (lt_of_heap HX.out.2.2.1) (fun f => by omega)).trans HX.out.2.2.1
      have g1 : w4.cell? ⟨wr.heap.size, 1, none⟩ = some (.int .i64 a.val.kind) := by simp [World.cell?, b4]
      have g2 : w4.cell? ⟨wr.heap.size, 2, none⟩ = some (.int .i64 a.val.num) := by simp [World.cell?, b4]
      have g3 : w4.cell? ⟨wr.heap.size, 3, none⟩ = some (.string a.val.str) := by simp [World.cell?, b4]
      have g4 : w4.cell? ⟨wr.heap.size, 4, none⟩ = some (.bool a.val.is) := by simp [World.cell?, b4]
      have C5' := wvalue_any B pw _ a.val w4 hwr4 (by have : (form a.name.size).length ≤ 10 := form_le10 (by omega); simp only [List.length_append, size_toList] at hlen3 ⊢; omega) HX.out.2.2.2.2 hz
      unfold Val.cells at C5'
      have C5 := Lib.hid C5'
      have R5 := Lib.hid hk4
      clear hwr4 hk4 b4 C5' C4 c0 c1 c2 c3 c4 d0
      go_wp2_with fail
      refine C5.out.mono ?_
      rintro e w5 ⟨rfl, hwr5, hk5⟩
      have R6 := Lib.hid (And.intro hwr5 hk5)
      clear hwr5 hk5 C5 g1 g2 g3 g4
      go_wp2_with fail
      go_roundw
      case rel => exact ⟨k + 1, by omega, by go_num, by rw [flat_take_succ HX.out.1]; simpa [atForm] using R6.out.1, (HX.out.2.2.2.1.trans ((HX.out.2.1.weaken (fun _ _ f => f.elim)).trans R5.out)).trans R6.out.2⟩
      case measure => simp [intOf]; omega
    · have R5 := Lib.hid (And.intro hwr hkp)
      clear hwr hkp
      go_wp2_with fail
      go_end0
      refine ⟨rfl, ?_, R5.out.2⟩
      have h1 := R5.out.1
      rw [List.take_of_length_le (by omega), ← L0.out] at h1
      simpa [evForm] using h1
end Go.Proofs.Ytpehpidlcdfhcaa
