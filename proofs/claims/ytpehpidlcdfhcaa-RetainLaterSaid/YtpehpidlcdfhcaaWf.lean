/- DERIVED. The contracts of codec.form, PutEvent and Size. -/
import Derived.Test.YtpehpidlcdfhcaaWe
namespace Go.Proofs.Ytpehpidlcdfhcaa
open Go.RowKit

/-- a form was made -/
def Formed (w : World) (l : List UInt8) (e : Ending) (w' : World) : Prop := ∃ p n c, e = .returned (.tuple #[.slice p n c, .int .i64 0]) ∧ Owns w' w.heap.size (.slice p n c) l ∧ Old w w'

theorem form_no_any (fv : Value) (w : World) : Calls Try.prog 37 #[.bool false, fv] w fun e w' => e = .returned (.tuple #[.slice none 0 0, .int .i64 30]) ∧ w = w' := by
  go_enter Try.func37, Try.ntmps37
  go_wp2_with fail
  go_ret2
  exact ⟨rfl, rfl⟩
theorem form_yes_any (f : FuncId) (eb : Nat) (l : List UInt8) (w : World) (hent : ∀ (args : Array Value) (w : World), (callFunc f args).run Try.prog w = .ok (.enter f args) w)
    (hlay : ∀ W pw, Old w W → w.heap.size ≤ pw → Wr W w.heap.size pw [] → Calls Try.prog f #[.pointer (some ⟨pw, 0, none⟩), .pointer (some ⟨eb, 0, none⟩)] W (Laid W w.heap.size pw l)) :
    Calls Try.prog 37 #[.bool true, .func (.func f) #[] #[.pointer (some ⟨eb, 0, none⟩)]] w (Formed w l) := by
  have o1 := Owns.lit w w.heap.size [] (Nat.le_refl _) (Nat.zero_le _)
  generalize hW0 : (w.alloc (.cells #[] 5)).alloc (.cells #[.slice (some ⟨w.heap.size, 0, none⟩) 0 0] 82) = W0
  have k0 : Old w W0 := by rw [← hW0]; exact ((Keeps.refl _ _).alloc _).alloc _
  have hwr : Wr W0 w.heap.size (w.heap.size + 1) [] := by
    refine ⟨.slice (some ⟨w.heap.size, 0, none⟩) 0 0, ?_, ?_, ?_, k0.size⟩
    · rw [← hW0]
      have := heap_alloc_new (w.alloc (.cells #[] 5)) (.cells #[.slice (some ⟨w.heap.size, 0, none⟩) 0 0] 82)
      simpa using this
    · rw [← hW0]; exact o1.alloc _
    · intro k hk; simp [Value.ownBlock] at hk; omega
  have C := Lib.hid (hlay W0 (w.heap.size + 1) k0 (by omega) hwr)
  have H := Lib.hid k0
  clear hlay hwr k0 o1
  go_enter Try.func37, Try.ntmps37
  go_wp2_with fail
  refine C.out.mono ?_
  rintro e w1 ⟨rfl, ⟨v, h1, h2, h3, h4⟩, hk⟩
  have q1 : w1.cell? ⟨w.heap.size + 1, 0, none⟩ = some v := by simp [World.cell?, h1]
  have K := Lib.hid (And.intro h2 hk)
  clear h1 h2 h3 h4 hk C
  go_wp2_with fail
  go_ret2
  obtain ⟨p, c, rfl, _, _⟩ := K.out.1.sees.len
  refine ⟨p, _, c, rfl, K.out.1, ?_⟩
  exact H.out.then K.out.2 (fun i hi e => by have e' : i = w.heap.size + 1 := e; omega)

theorem put_event1_any (B pw eb : Nat) (l : List UInt8) (key : ByteArray) (v : Value) (es : List At) (w : World) (h : Wr w B pw l) (hl : l.length ≤ 999990000)
    (hb : w.heap[eb]? = some (.cells #[.string key, v] 38 (0, 0)))
    (ha : SeesA w v es) (hne : 0 < es.length → ∀ k, v.ownBlock = some k → k ≠ pw) (hok : evOk key es = true) (hf : Fits es) :
    Calls Try.prog 39 #[.pointer (some ⟨pw, 0, none⟩), .pointer (some ⟨eb, 0, none⟩)] w (Laid w B pw (l ++ evForm key es)) := by
  have q0 : w.cell? ⟨eb, 0, none⟩ = some (.string key) := by simp [World.cell?, hb]
  have q1 : w.cell? ⟨eb, 1, none⟩ = some v := by simp [World.cell?, hb]
  have C := Lib.hid (wevent_any B pw l key v es w h hl ha hne hok hf)
  clear h ha hne hb
  go_enter Try.func39, Try.ntmps39
  go_wp2_with fail
  refine C.out.mono ?_
  rintro e w1 ⟨rfl, hwr, hk⟩
  have K := Lib.hid (And.intro hwr hk)
  clear hwr hk
  go_wp2_with fail
  go_end0
  exact ⟨rfl, K.out.1, K.out.2⟩

theorem put_event_any (key : ByteArray) (v : Value) (es : List At) (w : World) (ha : SeesA w v es) (hlt : 0 < es.length → ∀ k, v.ownBlock = some k → k < w.heap.size) (hok : evOk key es = true) (hf : Fits es) :
    Calls Try.prog 33 #[.agg #[.string key, v]] w (Formed w (evForm key es)) := by
  have hmf : ∀ (fn : Fn) (first cap : Array Value) (w : World), (Instr.makeFunc fn first cap).run Try.prog w = .ok (.func fn first cap) w := fun _ _ _ _ => rfl
  have M := fun W h => ev_may_any key v es W (ha.old h)
  rw [hok] at M
  generalize hW0 : w.alloc (.cells #[.string key, v] 38) = W0
  have k0 : Old w W0 := by rw [← hW0]; exact (Keeps.refl _ _).alloc _
  have hb0 : W0.heap[w.heap.size]? = some (.cells #[.string key, v] 38 (0, 0)) := by rw [← hW0]; exact heap_alloc_new _ _
  have q0 : W0.cell? ⟨w.heap.size, 0, none⟩ = some (.string key) := by simp [World.cell?, hb0]
  have q1 : W0.cell? ⟨w.heap.size, 1, none⟩ = some v := by simp [World.cell?, hb0]
  have C := Lib.hid (M W0 k0)
  have H := Lib.hid (And.intro k0 (And.intro hb0 (And.intro ha (And.intro hlt hf))))
  obtain ⟨p, c, rfl, _, _⟩ := ha.len
  clear M k0 hb0 ha hlt
  go_enter Try.func33, Try.ntmps33
  go_wp2_with fail
  refine C.out.mono ?_
  rintro e w1 ⟨rfl, hk1⟩
  obtain ⟨k0, hb0, ha, hlt, hf'⟩ := H.out
  have F := Lib.hid (form_yes_any 39 w.heap.size (evForm key es) w1 (fun args W => by simp [go_sem, callFunc, Try.func39]; rfl) (fun W pw hO hp hwr => by
    have hx := put_event1_any w1.heap.size pw w.heap.size [] key _ es W hwr (by simp) ((hO.block _ (by have := k0.size; have := hk1.size; have := lt_of_heap hb0; omega) (fun f => f)).trans ((hk1.block _ (lt_of_heap hb0) (fun f => f)).trans hb0))
      (ha.old ((k0.trans hk1).trans hO)) (fun h0 k hk => by have := hlt h0 k hk; have := k0.size; have := hk1.size; omega) hok hf'
    simpa using hx))
  have K := Lib.hid (k0.trans hk1)
  clear k0 hb0 ha hlt hf' hk1
  go_wp2_with fail
  refine F.out.mono ?_
  rintro e w2 ⟨p2, n2, c2, rfl, ho2, hk2⟩
  have R := Lib.hid (And.intro ho2 hk2)
  clear ho2 hk2
  go_wp2_with fail
  go_ret2
  exact ⟨p2, n2, c2, rfl, R.out.1.mono K.out.size, K.out.trans R.out.2⟩
theorem put_event_no_any (key : ByteArray) (v : Value) (es : List At) (w : World) (ha : SeesA w v es) (hok : evOk key es = false) :
    Calls Try.prog 33 #[.agg #[.string key, v]] w fun e w' => e = .returned (.tuple #[.slice none 0 0, .int .i64 30]) ∧ Old w w' := by
  have hmf : ∀ (fn : Fn) (first cap : Array Value) (w : World), (Instr.makeFunc fn first cap).run Try.prog w = .ok (.func fn first cap) w := fun _ _ _ _ => rfl
  have M := fun W h => ev_may_any key v es W (ha.old h)
  rw [hok] at M
  generalize hW0 : w.alloc (.cells #[.string key, v] 38) = W0
  have k0 : Old w W0 := by rw [← hW0]; exact (Keeps.refl _ _).alloc _
  have hb0 : W0.heap[w.heap.size]? = some (.cells #[.string key, v] 38 (0, 0)) := by rw [← hW0]; exact heap_alloc_new _ _
  have q0 : W0.cell? ⟨w.heap.size, 0, none⟩ = some (.string key) := by simp [World.cell?, hb0]
  have q1 : W0.cell? ⟨w.heap.size, 1, none⟩ = some v := by simp [World.cell?, hb0]
  have C := Lib.hid (M W0 k0)
  have H := Lib.hid k0
  obtain ⟨p, c, rfl, _, _⟩ := ha.len
  clear M k0 hb0 ha
  go_enter Try.func33, Try.ntmps33
  go_wp2_with fail
  refine C.out.mono ?_
  rintro e w1 ⟨rfl, hk1⟩
  have K := Lib.hid (H.out.trans hk1)
  clear hk1
  go_wp2_with fail
  refine (form_no_any _ _).mono ?_
  rintro e w2 ⟨rfl, rfl⟩
  go_wp2_with fail
  go_ret2
  exact ⟨rfl, K.out⟩

/-- an event's size -/
def evSize (key : ByteArray) (es : List At) : Nat := if evOk key es then (evForm key es).length else 0
theorem evSize_le {key : ByteArray} {es : List At} (hf : Fits es) : evSize key es ≤ 800 := by
  unfold evSize; split
  · exact evForm_le (by assumption) hf
  · omega
theorem size_any (key : ByteArray) (v : Value) (es : List At) (w : World) (ha : SeesA w v es) (hlt : 0 < es.length → ∀ k, v.ownBlock = some k → k < w.heap.size) (hf : Fits es) :
    Calls Try.prog 28 #[.agg #[.string key, v]] w fun e w' => e = .returned (.int .i64 (evSize key es)) ∧ Old w w' := by
  generalize hW0 : w.alloc (.cells #[.string key, v] 38) = W0
  have k0 : Old w W0 := by rw [← hW0]; exact (Keeps.refl _ _).alloc _
  have hb0 : W0.heap[w.heap.size]? = some (.cells #[.string key, v] 38 (0, 0)) := by rw [← hW0]; exact heap_alloc_new _ _
  have q0 : W0.cell? ⟨w.heap.size, 0, none⟩ = some (.string key) := by simp [World.cell?, hb0]
  have q1 : W0.cell? ⟨w.heap.size, 1, none⟩ = some v := by simp [World.cell?, hb0]
  obtain ⟨p, c, rfl, _, _⟩ := ha.len
  cases hok : evOk key es
  · have C := Lib.hid (put_event_no_any key _ es W0 (ha.old k0) hok)
    have H := Lib.hid k0
    have HO := Lib.hid hok
    clear k0 hb0 ha hok
    go_enter Try.func28, Try.ntmps28
    go_wp2_with fail
    refine C.out.mono ?_
    rintro e w1 ⟨rfl, hk1⟩
    have K := Lib.hid (H.out.trans hk1)
    clear hk1
    go_wp2_with fail
    go_ret
    exact ⟨ret_int (by simp [evSize, HO.out]), K.out⟩
  · have C := Lib.hid (put_event_any key _ es W0 (ha.old k0) (fun h0 k hk => by have := hlt h0 k hk; have := k0.size; omega) hok hf)
    have H := Lib.hid k0
    have HO := Lib.hid hok
    clear k0 hb0 ha hok hlt
    go_enter Try.func28, Try.ntmps28
    go_wp2_with fail
    refine C.out.mono ?_
    rintro e w1 ⟨p2, n2, c2, rfl, ho2, hk1⟩
    obtain ⟨p3, c3, he3, _, _⟩ := ho2.sees.len
    simp only [Value.slice.injEq] at he3
    obtain ⟨rfl, rfl, rfl⟩ := he3
    have K := Lib.hid (H.out.trans hk1)
    clear hk1 ho2
    go_wp2_with fail
    go_ret
    exact ⟨ret_int (by simp [evSize, HO.out]), K.out⟩
end Go.Proofs.Ytpehpidlcdfhcaa
