/- DERIVED. The contracts of codec.form, PutEvent and Size. · DERIVED. The document's PutEvent. · DERIVED. codec.TakeEvent. -/
import Derived.Test.YtlpbbcjmmhabfaaY05
import Derived.Test.YtlpbbcjmmhabfaaY15
import Derived.Test.YtlpbbcjmmhabfaaY14
import Derived.Defers
import Derived.Recover
namespace Go.Proofs.Ytlpbbcjmmhabfaa
open Go.RowKit

/-- a form was made -/
def Formed (w : World) (l : List UInt8) (e : Ending) (w' : World) : Prop := ∃ p n c, e = .returned (.tuple #[.slice p n c, .int .i64 0]) ∧ Owns w' w.heap.size (.slice p n c) l ∧ Old w w'

theorem form_no_any (fv : Value) (w : World) : Calls Try.prog 41 #[.bool false, fv] w fun e w' => e = .returned (.tuple #[.slice none 0 0, .int .i64 30]) ∧ w = w' := by
  go_enter Try.func41, Try.ntmps41
  go_wp2_with fail
  go_ret2
  exact ⟨rfl, rfl⟩
theorem form_yes_any (f : FuncId) (eb : Nat) (l : List UInt8) (w : World) (hent : ∀ (args : Array Value) (w : World), (callFunc f args).run Try.prog w = .ok (.enter f args) w)
    (hlay : ∀ W pw, Old w W → w.heap.size ≤ pw → Wr W w.heap.size pw [] → Calls Try.prog f #[.pointer (some ⟨pw, 0, none⟩), .pointer (some ⟨eb, 0, none⟩)] W (Laid W w.heap.size pw l)) :
    Calls Try.prog 41 #[.bool true, .func (.func f) #[] #[.pointer (some ⟨eb, 0, none⟩)]] w (Formed w l) := by
  have o1 := Owns.lit w w.heap.size [] (Nat.le_refl _) (Nat.zero_le _)
  generalize hW0 : (w.alloc (.cells #[] 5)).alloc (.cells #[.slice (some ⟨w.heap.size, 0, none⟩) 0 0] 134) = W0
  have k0 : Old w W0 := by rw [← hW0]; exact ((Keeps.refl _ _).alloc _).alloc _
  have hwr : Wr W0 w.heap.size (w.heap.size + 1) [] := by
    refine ⟨.slice (some ⟨w.heap.size, 0, none⟩) 0 0, ?_, ?_, ?_, k0.size⟩
    · rw [← hW0]
      have := heap_alloc_new (w.alloc (.cells #[] 5)) (.cells #[.slice (some ⟨w.heap.size, 0, none⟩) 0 0] 134)
      simpa using this
    · rw [← hW0]; exact o1.alloc _
    · intro k hk; simp [Value.ownBlock] at hk; omega
  have C := Lib.hid (hlay W0 (w.heap.size + 1) k0 (by omega) hwr)
  have H := Lib.hid k0
  clear hlay hwr k0 o1
  go_enter Try.func41, Try.ntmps41
  go_wp2_with fail
  refine C.out.mono ?_
  rintro e w1 ⟨rfl, ⟨v, h1, h2, h3, h4⟩, hk⟩
  have q1 : w1.cell? ⟨w.heap.size + 1, 0, none⟩ = some v := by simp [World.cell?, h1]
  have K := Lib.hid (And.intro h2 hk)
  clear h1 h2 h3 h4 hk C
  go_wp2_with fail
  go_ret2
  obtain ⟨p, c, rfl, _, _⟩ := K.out.1.sees.len
  refine ⟨p, _, c, rfl, K.out.1, ?_⟩
  exact H.out.then K.out.2 (fun i hi e => by have e' : i = w.heap.size + 1 := e; omega)

theorem put_event1_any (B pw eb : Nat) (l : List UInt8) (key : ByteArray) (v : Value) (es : List At) (w : World) (h : Wr w B pw l) (hl : l.length ≤ 999990000)
    (hb : w.heap[eb]? = some (.cells #[.string key, v] 24 (0, 0)))
    (ha : SeesA w v es) (hne : 0 < es.length → ∀ k, v.ownBlock = some k → k ≠ pw) (hok : evOk key es = true) (hf : Fits es) :
    Calls Try.prog 42 #[.pointer (some ⟨pw, 0, none⟩), .pointer (some ⟨eb, 0, none⟩)] w (Laid w B pw (l ++ evForm key es)) := by
  have q0 : w.cell? ⟨eb, 0, none⟩ = some (.string key) := by simp [World.cell?, hb]
  have q1 : w.cell? ⟨eb, 1, none⟩ = some v := by simp [World.cell?, hb]
  have C := Lib.hid (wevent_any B pw l key v es w h hl ha hne hok hf)
  clear h ha hne hb
  go_enter Try.func42, Try.ntmps42
  go_wp2_with fail
  refine C.out.mono ?_
  rintro e w1 ⟨rfl, hwr, hk⟩
  have K := Lib.hid (And.intro hwr hk)
  clear hwr hk
  go_wp2_with fail
  go_end0
  exact ⟨rfl, K.out.1, K.out.2⟩

theorem put_event_any (key : ByteArray) (v : Value) (es : List At) (w : World) (ha : SeesA w v es) (hlt : 0 < es.length → ∀ k, v.ownBlock = some k → k < w.heap.size) (hok : evOk key es = true) (hf : Fits es) :
    Calls Try.prog 12 #[.agg #[.string key, v]] w (Formed w (evForm key es)) := by
  have hmf : ∀ (fn : Fn) (first cap : Array Value) (w : World), (Instr.makeFunc fn first cap).run Try.prog w = .ok (.func fn first cap) w := fun _ _ _ _ => rfl
  have M := fun W h => ev_may_any key v es W (ha.old h)
  rw [hok] at M
  generalize hW0 : w.alloc (.cells #[.string key, v] 24) = W0
  have k0 : Old w W0 := by rw [← hW0]; exact (Keeps.refl _ _).alloc _
  have hb0 : W0.heap[w.heap.size]? = some (.cells #[.string key, v] 24 (0, 0)) := by rw [← hW0]; exact heap_alloc_new _ _
  have q0 : W0.cell? ⟨w.heap.size, 0, none⟩ = some (.string key) := by simp [World.cell?, hb0]
  have q1 : W0.cell? ⟨w.heap.size, 1, none⟩ = some v := by simp [World.cell?, hb0]
  have C := Lib.hid (M W0 k0)
  have H := Lib.hid (And.intro k0 (And.intro hb0 (And.intro ha (And.intro hlt hf))))
  obtain ⟨p, c, rfl, _, _⟩ := ha.len
  clear M k0 hb0 ha hlt
  go_enter Try.func12, Try.ntmps12
  go_wp2_with fail
  refine C.out.mono ?_
  rintro e w1 ⟨rfl, hk1⟩
  obtain ⟨k0, hb0, ha, hlt, hf'⟩ := H.out
  have F := Lib.hid (form_yes_any 42 w.heap.size (evForm key es) w1 (fun args W => by simp [go_sem, callFunc, Try.func42]; rfl) (fun W pw hO hp hwr => by
    have hx := put_event1_any w1.heap.size pw w.heap.size [] key _ es W hwr (by simp) ((hO.block _ (by have := k0.size; have := hk1.size; have := lt_of_heap hb0; omega) (fun f => f)).trans ((hk1.block _ (lt_of_heap hb0) (fun f => f)).trans hb0))
      (ha.old ((k0.trans hk1).trans hO)) (fun h0 k hk => by have := hlt h0 k hk; have := k0.size; have := hk1.size; omega) hok hf'
    simpa using hx))
  have K := Lib.hid (k0.trans hk1)
  clear k0 hb0 ha hlt hf' hk1
  go_wp2_with fail
  refine F.out.mono ?_
  rintro e w2 ⟨p2, n2, c2, rfl, ho2, hk2⟩
  have R := Lib.hid (And.intro ho2 hk2)
  clear ho2 hk2
  go_wp2_with fail
  go_ret2
  exact ⟨p2, n2, c2, rfl, R.out.1.mono K.out.size, K.out.trans R.out.2⟩
theorem put_event_no_any (key : ByteArray) (v : Value) (es : List At) (w : World) (ha : SeesA w v es) (hok : evOk key es = false) :
    Calls Try.prog 12 #[.agg #[.string key, v]] w fun e w' => e = .returned (.tuple #[.slice none 0 0, .int .i64 30]) ∧ Old w w' := by
  have hmf : ∀ (fn : Fn) (first cap : Array Value) (w : World), (Instr.makeFunc fn first cap).run Try.prog w = .ok (.func fn first cap) w := fun _ _ _ _ => rfl
  have M := fun W h => ev_may_any key v es W (ha.old h)
  rw [hok] at M
  generalize hW0 : w.alloc (.cells #[.string key, v] 24) = W0
  have k0 : Old w W0 := by rw [← hW0]; exact (Keeps.refl _ _).alloc _
  have hb0 : W0.heap[w.heap.size]? = some (.cells #[.string key, v] 24 (0, 0)) := by rw [← hW0]; exact heap_alloc_new _ _
  have q0 : W0.cell? ⟨w.heap.size, 0, none⟩ = some (.string key) := by simp [World.cell?, hb0]
  have q1 : W0.cell? ⟨w.heap.size, 1, none⟩ = some v := by simp [World.cell?, hb0]
  have C := Lib.hid (M W0 k0)
  have H := Lib.hid k0
  obtain ⟨p, c, rfl, _, _⟩ := ha.len
  clear M k0 hb0 ha
  go_enter Try.func12, Try.ntmps12
  go_wp2_with fail
  refine C.out.mono ?_
  rintro e w1 ⟨rfl, hk1⟩
  have K := Lib.hid (H.out.trans hk1)
  clear hk1
  go_wp2_with fail
  refine (form_no_any _ _).mono ?_
  rintro e w2 ⟨rfl, rfl⟩
  go_wp2_with fail
  go_ret2
  exact ⟨rfl, K.out⟩

/-- an event's size -/
def evSize (key : ByteArray) (es : List At) : Nat := if evOk key es then (evForm key es).length else 0
theorem evSize_le {key : ByteArray} {es : List At} (hf : Fits es) : evSize key es ≤ 800 := by
  unfold evSize; split
  · exact evForm_le (by assumption) hf
  · omega
theorem size_any (key : ByteArray) (v : Value) (es : List At) (w : World) (ha : SeesA w v es) (hlt : 0 < es.length → ∀ k, v.ownBlock = some k → k < w.heap.size) (hf : Fits es) :
    Calls Try.prog 17 #[.agg #[.string key, v]] w fun e w' => e = .returned (.int .i64 (evSize key es)) ∧ Old w w' := by
  generalize hW0 : w.alloc (.cells #[.string key, v] 24) = W0
  have k0 : Old w W0 := by rw [← hW0]; exact (Keeps.refl _ _).alloc _
  have hb0 : W0.heap[w.heap.size]? = some (.cells #[.string key, v] 24 (0, 0)) := by rw [← hW0]; exact heap_alloc_new _ _
  have q0 : W0.cell? ⟨w.heap.size, 0, none⟩ = some (.string key) := by simp [World.cell?, hb0]
  have q1 : W0.cell? ⟨w.heap.size, 1, none⟩ = some v := by simp [World.cell?, hb0]
  obtain ⟨p, c, rfl, _, _⟩ := ha.len
  cases hok : evOk key es
  · have C := Lib.hid (put_event_no_any key _ es W0 (ha.old k0) hok)
    have H := Lib.hid k0
    have HO := Lib.hid hok
    clear k0 hb0 ha hok
    go_enter Try.func17, Try.ntmps17
    go_wp2_with fail
    refine C.out.mono ?_
    rintro e w1 ⟨rfl, hk1⟩
    have K := Lib.hid (H.out.trans hk1)
    clear hk1
    go_wp2_with fail
    go_ret
    exact ⟨ret_int (by simp [evSize, HO.out]), K.out⟩
  · have C := Lib.hid (put_event_any key _ es W0 (ha.old k0) (fun h0 k hk => by have := hlt h0 k hk; have := k0.size; omega) hok hf)
    have H := Lib.hid k0
    have HO := Lib.hid hok
    clear k0 hb0 ha hok hlt
    go_enter Try.func17, Try.ntmps17
    go_wp2_with fail
    refine C.out.mono ?_
    rintro e w1 ⟨p2, n2, c2, rfl, ho2, hk1⟩
    obtain ⟨p3, c3, he3, _, _⟩ := ho2.sees.len
    simp only [Value.slice.injEq] at he3
    obtain ⟨rfl, rfl, rfl⟩ := he3
    have K := Lib.hid (H.out.trans hk1)
    clear hk1 ho2
    go_wp2_with fail
    go_ret
    exact ⟨ret_int (by simp [evSize, HO.out]), K.out⟩
end Go.Proofs.Ytlpbbcjmmhabfaa

namespace Go.Proofs.Ytlpbbcjmmhabfaa
open Go.RowKit

theorem ref_put_event_any (key : ByteArray) (v : Value) (es : List At) (w : World) (ha : SeesA w v es) (hlt : 0 < es.length → ∀ k, v.ownBlock = some k → k < w.heap.size) (hok : evOk key es = true) (hf : Fits es) :
    Calls Try.prog 13 #[.agg #[.string key, v]] w (Formed w (evForm key es)) := by
  have M := fun W h => ref_ev_may_any key v es W (ha.old h) (fun a ha => (hf a ha).1)
  rw [hok] at M
  generalize hW0 : w.alloc (.cells #[.string key, v] 24) = W0
  have k0 : Old w W0 := by rw [← hW0]; exact (Keeps.refl _ _).alloc _
  have hb0 : W0.heap[w.heap.size]? = some (.cells #[.string key, v] 24 (0, 0)) := by rw [← hW0]; exact heap_alloc_new _ _
  have q0 : W0.cell? ⟨w.heap.size, 0, none⟩ = some (.string key) := by simp [World.cell?, hb0]
  have q1 : W0.cell? ⟨w.heap.size, 1, none⟩ = some v := by simp [World.cell?, hb0]
  have C := Lib.hid (M W0 k0)
  have H := Lib.hid (And.intro k0 (And.intro ha (And.intro hlt hf)))
  obtain ⟨p, c, rfl, _, _⟩ := ha.len
  clear M k0 ha hlt
  go_enter Try.func13, Try.ntmps13
  go_wp2_with fail
  refine C.out.mono ?_
  rintro e w1 ⟨rfl, hk1⟩
  have r0 : w1.cell? ⟨w.heap.size, 0, none⟩ = some (.string key) := hk1.cell q0 (fun f => f)
  have r1 : w1.cell? ⟨w.heap.size, 1, none⟩ = some (.slice p es.length c) := hk1.cell q1 (fun f => f)
  obtain ⟨k0, ha, hlt, hf'⟩ := H.out
  have F := Lib.hid (ref7_event_any (.slice none 0 0) [] key _ es w1.heap.size w1 (Owns.nil _ _) (by simp) (ha.old (k0.trans hk1)) (fun h0 k hk => by have := hlt h0 k hk; have := k0.size; have := hk1.size; omega) hok hf' (Nat.le_refl _))
  have K := Lib.hid (k0.trans hk1)
  clear k0 ha hlt hf' hk1 q0 q1 hb0
  go_wp2_with fail
  refine F.out.mono ?_
  rintro e w2 ⟨p2, n2, c2, rfl, ho2, hk2⟩
  have R := Lib.hid (And.intro ho2 (K8.to_old hk2))
  clear ho2 hk2
  go_wp2_with fail
  go_ret2
  exact ⟨p2, n2, c2, rfl, by simpa using R.out.1.mono K.out.size, K.out.trans R.out.2⟩
theorem ref_put_event_no_any (key : ByteArray) (v : Value) (es : List At) (w : World) (ha : SeesA w v es) (hok : evOk key es = false) (hf : Fits es) :
    Calls Try.prog 13 #[.agg #[.string key, v]] w fun e w' => e = .returned (.tuple #[.slice none 0 0, .int .i64 30]) ∧ Old w w' := by
  have M := fun W h => ref_ev_may_any key v es W (ha.old h) (fun a ha => (hf a ha).1)
  rw [hok] at M
  generalize hW0 : w.alloc (.cells #[.string key, v] 24) = W0
  have k0 : Old w W0 := by rw [← hW0]; exact (Keeps.refl _ _).alloc _
  have hb0 : W0.heap[w.heap.size]? = some (.cells #[.string key, v] 24 (0, 0)) := by rw [← hW0]; exact heap_alloc_new _ _
  have q0 : W0.cell? ⟨w.heap.size, 0, none⟩ = some (.string key) := by simp [World.cell?, hb0]
  have q1 : W0.cell? ⟨w.heap.size, 1, none⟩ = some v := by simp [World.cell?, hb0]
  have C := Lib.hid (M W0 k0)
  have H := Lib.hid k0
  obtain ⟨p, c, rfl, _, _⟩ := ha.len
  clear M k0 hb0 ha
  go_enter Try.func13, Try.ntmps13
  go_wp2_with fail
  refine C.out.mono ?_
  rintro e w1 ⟨rfl, hk1⟩
  have K := Lib.hid (H.out.trans hk1)
  clear hk1
  go_wp2_with fail
  go_ret2
  exact ⟨rfl, K.out⟩
end Go.Proofs.Ytlpbbcjmmhabfaa

namespace Go.Proofs.Ytlpbbcjmmhabfaa
open Go.RowKit

theorem set2 {w : World} {b : Nat} {t : TypeId} {x0 x1 a0 a1 : Value} (h : w.heap[b]? = some (.cells #[x0, x1] t (0, 0))) : ((w.setCell ⟨b, 0, none⟩ a0).setCell ⟨b, 1, none⟩ a1).heap[b]? = some (.cells #[a0, a1] t (0, 0)) := by
  have h0 := heap_setCell_same w b 0 _ _ a0 h
  have h1 := heap_setCell_same _ b 1 _ _ a1 h0
  simpa using h1
theorem set4 {w : World} {b : Nat} {t : TypeId} {x0 x1 x2 x3 a0 a1 a2 a3 : Value} (h : w.heap[b]? = some (.cells #[x0, x1, x2, x3] t (0, 0))) : ((((w.setCell ⟨b, 0, none⟩ a0).setCell ⟨b, 1, none⟩ a1).setCell ⟨b, 2, none⟩ a2).setCell ⟨b, 3, none⟩ a3).heap[b]? = some (.cells #[a0, a1, a2, a3] t (0, 0)) := by
  have h0 := heap_setCell_same w b 0 _ _ a0 h
  have h1 := heap_setCell_same _ b 1 _ _ a1 h0
  have h2 := heap_setCell_same _ b 2 _ _ a2 h1
  have h3 := heap_setCell_same _ b 3 _ _ a3 h2
  simpa using h3
theorem set1 {w : World} {b : Nat} {t : TypeId} {x0 a0 : Value} (h : w.heap[b]? = some (.cells #[x0] t (0, 0))) : (w.setCell ⟨b, 0, none⟩ a0).heap[b]? = some (.cells #[a0] t (0, 0)) := by
  have h0 := heap_setCell_same w b 0 _ _ a0 h
  simpa using h0
theorem keepS {ep : Nat} {a b : World} {i : Nat} (u : Value) (h : Keeps (fun k => k = ep) a b) : Keeps (fun k => k = ep) a (b.setCell ⟨ep, i, none⟩ u) := h.setCell (fun _ => rfl) u
theorem keep1 {a0 : Value} (w : World) (b : Nat) : Keeps (fun k => k = b) w (w.setCell ⟨b, 0, none⟩ a0) := keepS _ (Keeps.refl _ _)
theorem keep2 {a0 a1 : Value} (w : World) (b : Nat) : Keeps (fun k => k = b) w ((w.setCell ⟨b, 0, none⟩ a0).setCell ⟨b, 1, none⟩ a1) := keepS _ (keepS _ (Keeps.refl _ _))
theorem keep4 {a0 a1 a2 a3 : Value} (w : World) (b : Nat) : Keeps (fun k => k = b) w ((((w.setCell ⟨b, 0, none⟩ a0).setCell ⟨b, 1, none⟩ a1).setCell ⟨b, 2, none⟩ a2).setCell ⟨b, 3, none⟩ a3) := keepS _ (keepS _ (keepS _ (keepS _ (Keeps.refl _ _))))
theorem keep5 {a0 a1 a2 a3 a4 : Value} (w : World) (b : Nat) : Keeps (fun k => k = b) w (((((w.setCell ⟨b, 0, none⟩ a0).setCell ⟨b, 1, none⟩ a1).setCell ⟨b, 2, none⟩ a2).setCell ⟨b, 3, none⟩ a3).setCell ⟨b, 4, none⟩ a4) := keepS _ (keepS _ (keepS _ (keepS _ (keepS _ (Keeps.refl _ _)))))

/-- bytes as an event -/
def takeE (l : List UInt8) : Option (ByteArray × List At) := (pEvent l).bind fun x => if evOk x.1.1 x.1.2 && decide (x.2 = []) then some x.1 else none
/-- what is told of bytes as an event -/
def TkE (w : World) (res : Option (ByteArray × List At)) (e : Ending) (w' : World) : Prop :=
  Old w w' ∧ match res with
  | some x => ∃ p n c, e = .returned (.tuple #[.agg #[.string x.1, .slice p n c], .int .i64 0]) ∧ OwnsA w' w.heap.size (.slice p n c) x.2
  | none => e = .returned (.tuple #[.agg #[.string ⟨#[]⟩, .slice none 0 0], .int .i64 5])
theorem TkE.no {w w' : World} {res : Option (ByteArray × List At)} (h : res = none) (k : Old w w') : TkE w res (.returned (.tuple #[.agg #[.string ⟨#[]⟩, .slice none 0 0], .int .i64 5])) w' := by subst h; exact ⟨k, rfl⟩
theorem TkE.yes {w w' : World} {res : Option (ByteArray × List At)} {key : ByteArray} {es : List At} {p : Option Addr} {n c : Nat} (h : res = some (key, es)) (k : Old w w') (ho : OwnsA w' w.heap.size (.slice p n c) es) : TkE w res (.returned (.tuple #[.agg #[.string key, .slice p n c], .int .i64 0])) w' := by subst h; exact ⟨k, p, n, c, rfl, ho⟩

set_option maxRecDepth 100000 in
theorem tk_ev_panic (xb eb : Nat) (x0 x1 : Value) (n : Int) (w : World) (hx : w.heap[xb]? = some (.cells #[x0, x1] 24 (0, 0))) (he : w.heap[eb]? = some (.cells #[.int .i64 n] 26 (0, 0))) (hne : xb ≠ eb) :
    CallsD Try.prog 86 #[.pointer (some ⟨xb, 0, none⟩), .pointer (some ⟨eb, 0, none⟩)] (.panicking fault) w fun e u' w' =>
      e = .returned (.tuple #[]) ∧ u' = .panicking [{ v := .iface 138 (.agg #[]), recovered := true }] ∧ w'.heap[xb]? = some (.cells #[.string ⟨#[]⟩, .slice none 0 0] 24 (0, 0)) ∧ w'.heap[eb]? = some (.cells #[.int .i64 5] 26 (0, 0)) ∧ Keeps (fun k => k = xb ∨ k = eb) w w' := by
  have hta : ∀ w, (Instr.typeAssert (.iface 138 (.agg #[])) 20 138 true).run Try.prog w = .ok (.tuple #[.agg #[], .bool true]) w := fun _ => by kernel_rfl
  have g1 := blk2 hx
  have g2 := blk1 he
  have l1 := lt_of_heap hx
  have l2 := lt_of_heap he
  have n1 : xb ≠ w.heap.size := by omega
  have n2 : eb ≠ w.heap.size := by omega
  have hne' : eb ≠ xb := Ne.symm hne
  have HX := Lib.hid (And.intro hx he)
  clear hx he
  refine callsD_of_wpS Try.func86 rfl fun c₀ cs hu => ?_
  apply wpS_seq
  apply wpS_region
  simp [wpOpsS, go_sem, recoverD, hu, Try.ntmps86, Exit.thenS]
  refine wpS_of_wp ?_
  go_wp2_with fail
  have q1 := set2 (a0 := .string ⟨#[]⟩) (a1 := .slice none 0 0) HX.out.1
  have q2 := (heap_setCell_other ((w.setCell ⟨xb, 0, none⟩ (.string ⟨#[]⟩)).setCell ⟨xb, 1, none⟩ (.slice none 0 0)) ⟨eb, 0, none⟩ xb (.int .i64 5) hne).trans q1
  have k1 := keep2 (a0 := .string ⟨#[]⟩) (a1 := .slice none 0 0) w xb
  have q3 := heap_setCell_same ((w.setCell ⟨xb, 0, none⟩ (.string ⟨#[]⟩)).setCell ⟨xb, 1, none⟩ (.slice none 0 0)) eb 0 _ _ (.int .i64 5) ((k1.block eb l2 hne').trans HX.out.2)
  have k2 : Keeps (fun k => k = xb ∨ k = eb) w ((w.setCell ⟨xb, 0, none⟩ (.string ⟨#[]⟩)).setCell ⟨xb, 1, none⟩ (.slice none 0 0)) := k1.weaken (fun i _ e => Or.inl e)
  have k3 := k2.setCell (p := ⟨eb, 0, none⟩) (fun _ => Or.inr rfl) (.int .i64 5)
  refine ⟨rfl, _, rfl, .tuple #[], by simp [results, Try.results86, go_sem], rfl, rfl, ?_, ?_, ?_⟩
  · rw [heap_alloc_old _ _ (by simpa using l1)]; exact q2
  · rw [heap_alloc_old _ _ (by simpa using l2)]; simpa using q3
  · exact k3.alloc _
set_option maxRecDepth 100000 in
theorem tk_ev_idle (xb eb : Nat) (w : World) :
    CallsD Try.prog 86 #[.pointer (some ⟨xb, 0, none⟩), .pointer (some ⟨eb, 0, none⟩)] .returning w fun e u' w' => e = .returned (.tuple #[]) ∧ u' = .returning ∧ w' = w := by
  refine callsD_of_wpS Try.func86 rfl fun c₀ cs hu => ?_
  apply wpS_seq
  apply wpS_region
  simp [wpOpsS, go_sem, recoverD, hu, Try.ntmps86, Exit.thenS]
  refine wpS_of_wp ?_
  go_wp2_with fail
  cases c₀
  simp_all [bodyPostS, results, Try.results86, go_sem]

theorem ev_results (tmps : Array Value) (xb eb : Nat) (y0 y1 : Value) (n : Int) (w : World) (h6 : tmps.getD 6 undef = .pointer (some ⟨xb, 0, none⟩)) (h7 : tmps.getD 7 undef = .pointer (some ⟨eb, 0, none⟩)) (c0 : w.cell? ⟨xb, 0, none⟩ = some y0) (c1 : w.cell? ⟨xb, 1, none⟩ = some y1) (hn : w.cell? ⟨eb, 0, none⟩ = some (.int .i64 n)) :
    (results Try.f46 tmps).run Try.prog w = .ok (.tuple #[.agg #[y0, y1], .int .i64 n]) w := by
  simp only [Array.getD_eq_getD_getElem?] at h6 h7
  simp [results, Try.results46, go_sem, h6, h7, c0, c1, hn]
theorem ev_door_bad {w wd : World} {Q : Ending → World → Prop} (hx : ∃ y0 y1, wd.heap[w.heap.size]? = some (.cells #[y0, y1] 24 (0, 0))) (he : ∃ n : Int, wd.heap[w.heap.size + 1]? = some (.cells #[.int .i64 n] 26 (0, 0))) (hk : Old w wd) (tmps : Array Value) (h6 : tmps.getD 6 undef = .pointer (some ⟨w.heap.size, 0, none⟩)) (h7 : tmps.getD 7 undef = .pointer (some ⟨w.heap.size + 1, 0, none⟩))
    (hQ : ∀ w', Old w w' → Q (.returned (.tuple #[.agg #[.string ⟨#[]⟩, .slice none 0 0], .int .i64 5])) w') :
    Leaves Try.prog Try.f46 tmps Q [{ target := .fn (.func 86) #[.pointer (some ⟨w.heap.size, 0, none⟩), .pointer (some ⟨w.heap.size + 1, 0, none⟩)], args := #[] }] (.panicking fault) wd := by
  obtain ⟨y0, y1, hx⟩ := hx
  obtain ⟨n, he⟩ := he
  refine leaves_cons (f := 86) (args := #[.pointer (some ⟨w.heap.size, 0, none⟩), .pointer (some ⟨w.heap.size + 1, 0, none⟩)]) (by simp) (by simp [go_sem]) ?_
  refine (tk_ev_panic _ _ _ _ n wd hx he (by omega)).mono ?_
  rintro e u' w'' ⟨rfl, rfl, q1, q2, k2⟩
  have hr := ev_results tmps _ _ _ _ _ w'' h6 h7 (blk2 q1).1.1 (blk2 q1).1.2 (blk1 q2).1
  have hq := hQ w'' (hk.then k2 (fun i hi e => by omega))
  simp [Leaves, settle]
  exact ⟨_, hr, hq⟩
theorem ev_door_ok {w wd : World} {Q : Ending → World → Prop} (y0 y1 : Value) (hx : wd.heap[w.heap.size]? = some (.cells #[y0, y1] 24 (0, 0))) (he : wd.heap[w.heap.size + 1]? = some (.cells #[.int .i64 0] 26 (0, 0))) (tmps : Array Value) (h6 : tmps.getD 6 undef = .pointer (some ⟨w.heap.size, 0, none⟩)) (h7 : tmps.getD 7 undef = .pointer (some ⟨w.heap.size + 1, 0, none⟩))
    (hQ : Q (.returned (.tuple #[.agg #[y0, y1], .int .i64 0])) wd) :
    Leaves Try.prog Try.f46 tmps Q [{ target := .fn (.func 86) #[.pointer (some ⟨w.heap.size, 0, none⟩), .pointer (some ⟨w.heap.size + 1, 0, none⟩)], args := #[] }] .returning wd := by
  refine leaves_cons (f := 86) (args := #[.pointer (some ⟨w.heap.size, 0, none⟩), .pointer (some ⟨w.heap.size + 1, 0, none⟩)]) (by simp) (by simp [go_sem]) ?_
  refine (tk_ev_idle _ _ wd).mono ?_
  rintro e u' w'' ⟨rfl, rfl, rfl⟩
  have hr := ev_results tmps _ _ y0 y1 _ w'' h6 h7 (blk2 hx).1.1 (blk2 hx).1.2 (blk1 he).1
  exact ⟨_, hr, hQ⟩

set_option maxRecDepth 100000 in
set_option maxHeartbeats 4000000 in
theorem taken_ev_any (v : Value) (l : List UInt8) (w : World) (h : Sees w v l) (hl : l.length ≤ 1000000000) :
    Calls Try.prog 46 #[v, .func (.func 47) #[] #[], .func (.func 12) #[] #[]] w (TkE w (takeE l)) := by
  have hmf : ∀ (fn : Fn) (first cap : Array Value) (w : World), (Instr.makeFunc fn first cap).run Try.prog w = .ok (.func fn first cap) w := fun _ _ _ _ => rfl
  obtain ⟨pv, cv, rfl, _, _⟩ := h.len
  obtain ⟨W0, hW0⟩ : ∃ W0, (w.alloc (.cells #[.string ⟨#[]⟩, .slice none 0 0] 24)).alloc (.cells #[.int .i64 0] 26) = W0 := ⟨_, rfl⟩
  have k0 : Old w W0 := by rw [← hW0]; exact ((Keeps.refl _ _).alloc _).alloc _
  have hb := two_blocks w (.cells #[.string ⟨#[]⟩, .slice none 0 0] 24) (.cells #[.int .i64 0] 26)
  rw [hW0] at hb
  have hs0 := h.old k0
  have HNew := Lib.hid (new_any _ l W0 hs0 hl)
  have HB := Lib.hid hb
  have HK := Lib.hid k0
  have HS := Lib.hid h
  have hsz : w.heap.size + 1 < W0.heap.size := lt_of_heap hb.2
  have hent1 : ∀ (args : Array Value) (w : World), (callFunc 47 args).run Try.prog w = .ok (.enter 47 args) w := fun args W => by simp [go_sem, callFunc, Try.func47]; rfl
  have hent2 : ∀ (args : Array Value) (w : World), (callFunc 12 args).run Try.prog w = .ok (.enter 12 args) w := fun args W => by simp [go_sem, callFunc, Try.func12]; rfl
  clear hb hs0 k0 h
  go_enter_defers Try.func46, Try.ntmps46
  go_wp2_with fail
  refine HNew.out.mono ?_
  rintro e w1 ⟨rb, bb, rfl, hR1, hrb, hbb, k1⟩
  have HE := Lib.hid (cevent_any w1.heap.size rb bb l w1 hR1)
  have K1 := Lib.hid k1
  clear hR1 k1 HNew
  go_wp2_with fail
  refine HE.out.mono ?_
  intro e w2 ht
  clear HE
  cases hp : pEvent l with
  | none =>
    rw [hp] at ht
    obtain ⟨rfl, hbad⟩ : e = .panicked fault ∧ Bad w1 w1.heap.size rb bb w2 := ht
    have hk2 : Old W0 w2 := K1.out.then hbad.2 (fun i hi e => by omega)
    have R := Lib.hid (And.intro ((hk2.block _ (lt_of_heap HB.out.1) (fun f => f)).trans HB.out.1) (And.intro ((hk2.block _ (lt_of_heap HB.out.2) (fun f => f)).trans HB.out.2) (HK.out.trans hk2)))
    have er : takeE l = none := by unfold takeE; rw [hp]; rfl
    have HER := Lib.hid er
    clear hbad hk2 er hp
    go_wp2_with fail
    exact ev_door_bad ⟨_, _, R.out.1⟩ ⟨_, R.out.2.1⟩ R.out.2.2 _ rfl rfl (fun w' h => TkE.no HER.out h)
  | some x =>
    obtain ⟨⟨key, es⟩, r⟩ := x
    rw [hp] at ht
    obtain ⟨⟨p', n', c', rfl, ho⟩, hR2, k2⟩ : (∃ p n c, e = .returned (.agg #[.string key, .slice p n c]) ∧ OwnsA w2 w1.heap.size (.slice p n c) es) ∧ Rd w2 w1.heap.size rb bb r ∧ RK rb w1 w2 := ht
    obtain ⟨_, _, hfit, hinv⟩ := pEvent_inv hp
    have er : takeE l = if evOk key es && decide (r = []) then some (key, es) else none := by unfold takeE; rw [hp]; rfl
    have hk2 : Old W0 w2 := K1.out.then k2 (fun i hi e => by omega)
    have b0 := (hk2.block _ (lt_of_heap HB.out.1) (fun f => f)).trans HB.out.1
    have b1 := (hk2.block _ (lt_of_heap HB.out.2) (fun f => f)).trans HB.out.2
    have g0 := blk2 b0
    have hl0 := lt_of_heap b0
    have hl1 := lt_of_heap b1
    obtain ⟨W2, hW2⟩ : ∃ W2, ((w2.setCell ⟨w.heap.size, 0, none⟩ (.string key)).setCell ⟨w.heap.size, 1, none⟩ (.slice p' n' c')) = W2 := ⟨_, rfl⟩
    have c0 := set2 (a0 := .string key) (a1 := .slice p' n' c') b0
    have kc := keep2 (a0 := .string key) (a1 := .slice p' n' c') w2 w.heap.size
    rw [hW2] at c0 kc
    have c1 := (kc.block _ hl1 (by omega)).trans b1
    have ho2 := ho.keeps kc (fun b hb e => by have := (ho.block b hb).1; have := K1.out.size; omega)
    have ha := ho2.sees (fun _ => rfl) (by decide)
    have hbl : 0 < es.length → ∀ k, (Value.slice p' n' c').ownBlock = some k → k < W2.heap.size := fun _ k hk => (ho2.block k hk).2
    have hkw : Old w W2 := (HK.out.trans hk2).then kc (fun i hi e => by omega)
    have HW2 := Lib.hid hW2
    have HC := Lib.hid (And.intro c0 (And.intro c1 (And.intro hkw ho2)))
    have hw1 := K1.out.size
    cases hok : evOk key es with
    | false =>
      have HP := Lib.hid (put_event_no_any key _ es W2 ha hok)
      rw [hok] at er
      have HER := Lib.hid (show takeE l = none from er)
      clear ho hR2 k2 hk2 b0 b1 c0 kc c1 ho2 ha hbl hkw hW2 hinv hfit er hp hok
      go_wp2_with fail
      rw [HW2.out]
      refine HP.out.mono ?_
      rintro e w3 ⟨rfl, k3⟩
      have R := Lib.hid (And.intro ((k3.block _ (lt_of_heap HC.out.1) (fun f => f)).trans HC.out.1) (And.intro ((k3.block _ (lt_of_heap HC.out.2.1) (fun f => f)).trans HC.out.2.1) (HC.out.2.2.1.trans k3)))
      clear k3
      go_wp2_with fail
      exact ev_door_bad ⟨_, _, R.out.1⟩ ⟨_, R.out.2.1⟩ R.out.2.2 _ rfl rfl (fun w' h => TkE.no HER.out h)
    | true =>
      have HP := Lib.hid (put_event_any key _ es W2 ha hbl hok hfit)
      have hform := hinv hok
      have HF := Lib.hid hform
      rw [hok] at er
      have HER := Lib.hid (show takeE l = if decide (r = []) then some (key, es) else none from by simpa using er)
      clear ho hR2 k2 hk2 b0 b1 c0 kc c1 ho2 ha hbl hkw hW2 hinv hfit er hp hok hform
      go_wp2_with fail
      rw [HW2.out]
      refine HP.out.mono ?_
      rintro e w3 ⟨p3, n3, c3, rfl, ho3, k3⟩
      have d0 := (k3.block _ (lt_of_heap HC.out.1) (fun f => f)).trans HC.out.1
      have d1 := (k3.block _ (lt_of_heap HC.out.2.1) (fun f => f)).trans HC.out.2.1
      have g3 := blk2 d0
      have g4 := blk1 d1
      have R := Lib.hid (And.intro d0 (And.intro d1 (And.intro (HC.out.2.2.1.trans k3) (HC.out.2.2.2.old k3))))
      have EQ := Lib.hid (equal_any _ _ _ _ w3 ho3.sees (HS.out.old (HC.out.2.2.1.trans k3)))
      clear k3 ho3 d0 d1
      by_cases hr : r = []
      · have hb : (evForm key es == l) = true := by rw [HF.out, hr]; simp
        rw [hb] at EQ
        have HR := Lib.hid hr
        clear hb hr HF
        go_wp2_with fail
        refine EQ.out.mono ?_
        rintro e w4 ⟨rfl, rfl⟩
        go_wp2_with fail
        have q1 := set2 (a0 := .string key) (a1 := .slice p' n' c') R.out.1
        have k4 := keep2 (a0 := .string key) (a1 := .slice p' n' c') w3 w.heap.size
        have q2 := (heap_setCell_other ((w3.setCell ⟨w.heap.size, 0, none⟩ (.string key)).setCell ⟨w.heap.size, 1, none⟩ (.slice p' n' c')) ⟨w.heap.size + 1, 0, none⟩ w.heap.size (.int .i64 0) (by simp)).trans q1
        have q3 := heap_setCell_same ((w3.setCell ⟨w.heap.size, 0, none⟩ (.string key)).setCell ⟨w.heap.size, 1, none⟩ (.slice p' n' c')) (w.heap.size + 1) 0 _ _ (.int .i64 0) ((k4.block _ (lt_of_heap R.out.2.1) (by omega)).trans R.out.2.1)
        have k5 : Keeps (fun k => k = w.heap.size ∨ k = w.heap.size + 1) w3 ((w3.setCell ⟨w.heap.size, 0, none⟩ (.string key)).setCell ⟨w.heap.size, 1, none⟩ (.slice p' n' c')) := k4.weaken (fun i _ e => Or.inl e)
        have k6 := k5.setCell (p := ⟨w.heap.size + 1, 0, none⟩) (fun _ => Or.inr rfl) (.int .i64 0)
        have hob := R.out.2.2.2.block
        exact ev_door_ok _ _ q2 (by simpa using q3) _ rfl rfl (TkE.yes (by rw [HER.out, if_pos (by simpa using HR.out)]) (R.out.2.2.1.then k6 (fun i hi e => by omega)) ((R.out.2.2.2.keeps k6 (fun b hb e => by have := (hob b hb).1; omega)).mono (by omega)))
      · have hb : (evForm key es == l) = false := by
          rw [HF.out]
          refine beq_eq_false_iff_ne.2 (fun e => hr ?_)
          simpa using e
        rw [hb] at EQ
        have HR := Lib.hid hr
        clear hb hr HF
        go_wp2_with fail
        refine EQ.out.mono ?_
        rintro e w4 ⟨rfl, rfl⟩
        go_wp2_with fail
        exact ev_door_bad ⟨_, _, R.out.1⟩ ⟨_, R.out.2.1⟩ R.out.2.2.1 _ rfl rfl (fun w' h => TkE.no (by rw [HER.out, if_neg (by simpa using HR.out)]) h)

set_option maxRecDepth 100000 in
theorem take_event_any (v : Value) (l : List UInt8) (w : World) (h : Sees w v l) (hl : l.length ≤ 1000000000) :
    Calls Try.prog 14 #[v] w (TkE w (takeE l)) := by
  obtain ⟨W1, hW1⟩ : ∃ W1, w.alloc (.cells #[.string ⟨#[]⟩, .slice none 0 0] 24) = W1 := ⟨_, rfl⟩
  have k1 : Old w W1 := by rw [← hW1]; exact (Keeps.refl _ _).alloc _
  have b1 : W1.heap[w.heap.size]? = some (.cells #[.string ⟨#[]⟩, .slice none 0 0] 24 (0, 0)) := by rw [← hW1]; exact heap_alloc_new _ _
  have HT := Lib.hid (taken_ev_any v l W1 (h.old k1) hl)
  have H := Lib.hid (And.intro k1 b1)
  have hsz := lt_of_heap b1
  obtain ⟨res, hres⟩ : ∃ r, takeE l = r := ⟨_, rfl⟩
  rw [hres] at HT ⊢
  obtain ⟨pv, cv, rfl, _, _⟩ := h.len
  clear h hl k1 b1 hres
  go_enter Try.func14, Try.ntmps14
  go_wp2_with fail
  refine HT.out.mono ?_
  rintro e w2 ⟨k2, ht⟩
  have b2 := (k2.block _ hsz (fun f => f)).trans H.out.2
  have g2 := blk2 b2
  have kw := H.out.1.trans k2
  rcases res with _ | ⟨key, es⟩
  · obtain rfl : e = .returned (.tuple #[.agg #[.string ⟨#[]⟩, .slice none 0 0], .int .i64 5]) := ht
    have K := Lib.hid kw
    clear kw k2 b2 HT
    go_wp2_with fail
    refine bodyPost_ret (v := .tuple #[.agg #[.string ⟨#[]⟩, .slice none 0 0], .int .i64 5]) (by simp [results, Try.results14, go_sem, g2]) rfl (TkE.no rfl (K.out.then (keep2 w2 w.heap.size) (fun i hi e => by omega)))
  · obtain ⟨p, n, c, rfl, ho⟩ : ∃ p n c, e = .returned (.tuple #[.agg #[.string key, .slice p n c], .int .i64 0]) ∧ OwnsA w2 W1.heap.size (.slice p n c) es := ht
    have K := Lib.hid (And.intro kw ho)
    clear kw k2 b2 HT ho
    go_wp2_with fail
    refine bodyPost_ret (v := .tuple #[.agg #[.string key, .slice p n c], .int .i64 0]) (by simp [results, Try.results14, go_sem, g2]) rfl (TkE.yes rfl (K.out.1.then (keep2 w2 w.heap.size) (fun i hi e => by omega)) ((K.out.2.keeps (keep2 w2 w.heap.size) (fun b hb e => by have := (K.out.2.block b hb).1; omega)).mono (by omega)))
end Go.Proofs.Ytlpbbcjmmhabfaa
