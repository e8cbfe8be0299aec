/- DERIVED. The document's PutEvent. -/
import Derived.Test.YtpehpidlcdfhcaaR7c
import Derived.Test.YtpehpidlcdfhcaaWf
namespace Go.Proofs.Ytpehpidlcdfhcaa
open Go.RowKit

theorem ref_put_event_any (key : ByteArray) (v : Value) (es : List At) (w : World) (ha : SeesA w v es) (hlt : 0 < es.length → ∀ k, v.ownBlock = some k → k < w.heap.size) (hok : evOk key es = true) (hf : Fits es) :
    Calls Try.prog 29 #[.agg #[.string key, v]] w (Formed w (evForm key es)) := by
  have M := fun W h => ref_ev_may_any key v es W (ha.old h) (fun a ha => (hf a ha).1)
  rw [hok] at M
  generalize hW0 : w.alloc (.cells #[.string key, v] 38) = W0
  have k0 : Old w W0 := by rw [← hW0]; exact (Keeps.refl _ _).alloc _
  have hb0 : W0.heap[w.heap.size]? = some (.cells #[.string key, v] 38 (0, 0)) := by rw [← hW0]; exact heap_alloc_new _ _
  have q0 : W0.cell? ⟨w.heap.size, 0, none⟩ = some (.string key) := by simp [World.cell?, hb0]
  have q1 : W0.cell? ⟨w.heap.size, 1, none⟩ = some v := by simp [World.cell?, hb0]
  have C := Lib.hid (M W0 k0)
  have H := Lib.hid (And.intro k0 (And.intro ha (And.intro hlt hf)))
  obtain ⟨p, c, rfl, _, _⟩ := ha.len
  clear M k0 ha hlt
  go_enter Try.func29, Try.ntmps29
  go_wp2_with fail
  refine C.out.mono ?_
  rintro e w1 ⟨rfl, hk1⟩
  have r0 : w1.cell? ⟨w.heap.size, 0, none⟩ = some (.string key) := hk1.cell q0 (fun f => f)
  have r1 : w1.cell? ⟨w.heap.size, 1, none⟩ = some (.slice p es.length c) := hk1.cell q1 (fun f => f)
  obtain ⟨k0, ha, hlt, hf'⟩ := H.out
  have F := Lib.hid (ref7_event_any (.slice none 0 0) [] key _ es w1.heap.size w1 (Owns.nil _ _) (by simp) (ha.old (k0.trans hk1)) (fun h0 k hk => by have := hlt h0 k hk; have := k0.size; have := hk1.size; omega) hok hf' (Nat.le_refl _))
  have K := Lib.hid (k0.trans hk1)
  clear k0 ha hlt hf' hk1 q0 q1 hb0
  go_wp2_with fail
  refine F.out.mono ?_
  rintro e w2 ⟨p2, n2, c2, rfl, ho2, hk2⟩
  have R := Lib.hid (And.intro ho2 (K8.to_old hk2))
  clear ho2 hk2
  go_wp2_with fail
  go_ret2
  exact ⟨p2, n2, c2, rfl, by simpa using R.out.1.mono K.out.size, K.out.trans R.out.2⟩
theorem ref_put_event_no_any (key : ByteArray) (v : Value) (es : List At) (w : World) (ha : SeesA w v es) (hok : evOk key es = false) (hf : Fits es) :
    Calls Try.prog 29 #[.agg #[.string key, v]] w fun e w' => e = .returned (.tuple #[.slice none 0 0, .int .i64 30]) ∧ Old w w' := by
  have M := fun W h => ref_ev_may_any key v es W (ha.old h) (fun a ha => (hf a ha).1)
  rw [hok] at M
  generalize hW0 : w.alloc (.cells #[.string key, v] 38) = W0
  have k0 : Old w W0 := by rw [← hW0]; exact (Keeps.refl _ _).alloc _
  have hb0 : W0.heap[w.heap.size]? = some (.cells #[.string key, v] 38 (0, 0)) := by rw [← hW0]; exact heap_alloc_new _ _
  have q0 : W0.cell? ⟨w.heap.size, 0, none⟩ = some (.string key) := by simp [World.cell?, hb0]
  have q1 : W0.cell? ⟨w.heap.size, 1, none⟩ = some v := by simp [World.cell?, hb0]
  have C := Lib.hid (M W0 k0)
  have H := Lib.hid k0
  obtain ⟨p, c, rfl, _, _⟩ := ha.len
  clear M k0 hb0 ha
  go_enter Try.func29, Try.ntmps29
  go_wp2_with fail
  refine C.out.mono ?_
  rintro e w1 ⟨rfl, hk1⟩
  have K := Lib.hid (H.out.trans hk1)
  clear hk1
  go_wp2_with fail
  go_ret2
  exact ⟨rfl, K.out⟩
end Go.Proofs.Ytpehpidlcdfhcaa
