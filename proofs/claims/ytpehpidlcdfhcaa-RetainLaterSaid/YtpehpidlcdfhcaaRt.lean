/- DERIVED. Items, and their sizes (layer 15). -/
import Derived.Test.YtpehpidlcdfhcaaRs
namespace Go.Proofs.Ytpehpidlcdfhcaa
open Go.RowKit

/-- an item: av is where its attributes lie -/
structure It where
  n : Nat
  time : Nat
  key : ByteArray
  av : Value
  es : List At
def It.cells (x : It) : List Value := [.int .u64 x.n, .int .u64 x.time, .string x.key, x.av]
/-- an item's attributes lie in w -/
def It.fine (w : World) (x : It) : Prop := SeesA w x.av x.es ∧ (0 < x.es.length → ∀ k, x.av.ownBlock = some k → k < w.heap.size) ∧ Fits x.es ∧ x.n < 18446744073709551616 ∧ x.time < 18446744073709551616
theorem It.fine.old {w w' : World} {x : It} (h : x.fine w) (hk : Old w w') : x.fine w' :=
  ⟨h.1.old hk, fun h0 k hk' => Nat.lt_of_lt_of_le (h.2.1 h0 k hk') hk.size, h.2.2⟩
def It.size (x : It) : Nat := evSize x.key x.es + 16

theorem it_size_any (x : It) (w : World) (h : x.fine w) : Calls Try.prog 13 #[.agg x.cells.toArray] w fun e w' => e = .returned (.int .i64 (x.size : Int)) ∧ Old w w' := by
  obtain ⟨n, t, key, av, es⟩ := x
  unfold It.cells
  simp only
  generalize hW0 : w.alloc (.cells #[.int .u64 n, .int .u64 t, .string key, av] 40) = W0
  have k0 : Old w W0 := by rw [← hW0]; exact (Keeps.refl _ _).alloc _
  have hb0 : W0.heap[w.heap.size]? = some (.cells #[.int .u64 n, .int .u64 t, .string key, av] 40 (0, 0)) := by rw [← hW0]; exact heap_alloc_new _ _
  have q0 : W0.cell? ⟨w.heap.size, 2, none⟩ = some (.string key) := by simp [World.cell?, hb0]
  have q1 : W0.cell? ⟨w.heap.size, 3, none⟩ = some av := by simp [World.cell?, hb0]
  have hle := evSize_le (key := key) h.2.2.1
  have C := Lib.hid (size_any key av es W0 (h.1.old k0) (fun h0 k hk => by have := h.2.1 h0 k hk; have := k0.size; simp only at *; omega) h.2.2.1)
  have H := Lib.hid k0
  obtain ⟨p, c, hav, _, _⟩ := h.1.len
  simp only at hav hle
  subst hav
  clear k0 hb0 h
  go_enter Try.func13, Try.ntmps13
  go_wp2_with fail
  refine C.out.mono ?_
  rintro e w1 ⟨rfl, hk1⟩
  have K := Lib.hid (H.out.trans hk1)
  clear hk1
  go_wp2_with fail
  go_ret
  exact ⟨ret_int (by unfold It.size; simp; omega), K.out⟩

theorem ref_it_size_any (x : It) (w : World) (h : x.fine w) : Calls Try.prog 14 #[.agg x.cells.toArray] w fun e w' => e = .returned (.int .i64 (x.size : Int)) ∧ Old w w' := by
  obtain ⟨n, t, key, av, es⟩ := x
  unfold It.cells
  simp only
  generalize hW0 : w.alloc (.cells #[.int .u64 n, .int .u64 t, .string key, av] 40) = W0
  have k0 : Old w W0 := by rw [← hW0]; exact (Keeps.refl _ _).alloc _
  have hb0 : W0.heap[w.heap.size]? = some (.cells #[.int .u64 n, .int .u64 t, .string key, av] 40 (0, 0)) := by rw [← hW0]; exact heap_alloc_new _ _
  have q0 : W0.cell? ⟨w.heap.size, 2, none⟩ = some (.string key) := by simp [World.cell?, hb0]
  have q1 : W0.cell? ⟨w.heap.size, 3, none⟩ = some av := by simp [World.cell?, hb0]
  have hle := evSize_le (key := key) h.2.2.1
  have hA := h.1.old k0
  have hL : 0 < es.length → ∀ k, av.ownBlock = some k → k < W0.heap.size := fun h0 k hk => by have := h.2.1 h0 k hk; have := k0.size; simp only at *; omega
  have hF := h.2.2.1
  obtain ⟨p, c, hav, _, _⟩ := h.1.len
  simp only at hav hle hF hA
  subst hav
  cases hok : evOk key es
  · have C := Lib.hid (ref_put_event_no_any key _ es W0 hA hok hF)
    have H := Lib.hid k0
    have HO := Lib.hid hok
    clear k0 hb0 h hok hA hL hF
    go_enter Try.func14, Try.ntmps14
    go_wp2_with fail
    refine C.out.mono ?_
    rintro e w1 ⟨rfl, hk1⟩
    have K := Lib.hid (H.out.trans hk1)
    clear hk1
    go_wp2_with fail
    go_ret
    exact ⟨ret_int (by simp [It.size, evSize, HO.out]), K.out⟩
  · have hle2 := evForm_le hok hF
    have C := Lib.hid (ref_put_event_any key _ es W0 hA hL hok hF)
    have H := Lib.hid k0
    have HO := Lib.hid hok
    clear k0 hb0 h hok hA hL hF
    go_enter Try.func14, Try.ntmps14
    go_wp2_with fail
    refine C.out.mono ?_
    rintro e w1 ⟨p2, n2, c2, rfl, ho2, hk1⟩
    obtain ⟨p3, c3, he3, _, _⟩ := ho2.sees.len
    simp only [Value.slice.injEq] at he3
    obtain ⟨rfl, rfl, rfl⟩ := he3
    have K := Lib.hid (H.out.trans hk1)
    clear hk1 ho2
    go_wp2_with fail
    go_ret
    exact ⟨ret_int (by simp [It.size, evSize, HO.out]), K.out⟩
end Go.Proofs.Ytpehpidlcdfhcaa
