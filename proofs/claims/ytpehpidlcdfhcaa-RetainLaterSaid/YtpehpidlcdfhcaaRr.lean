/- DERIVED. How arguments read: rows of structs; values, named values, events, items, policies. -/
import Derived.Test.YtpehpidlcdfhcaaRows
import Derived.Test.YtpehpidlcdfhcaaLo
import Derived.ProofKit
import Derived.OpenShut
import Derived.Deep.Slices
import Derived.Deep.Fields
namespace Go.Proofs.Ytpehpidlcdfhcaa
open Go.ChangeShapes Go.WideShapes Go.ChangeAt Go.RowKit Go.Deep

section
variable {H : Type} {enc : TypeId × Value → H} {W : World}
abbrev Trd (enc : TypeId × Value → H) (W : World) (fuel : Nat) (t : TypeId) (cs : List Value) (x : DataW H × List MemPlace) : Prop := DataW.trod enc Try.prog W 0 (fun _ => true) true fuel t cs = some x

/-- a slice of rows among what came in -/
theorem trod_rows {α : Type} [Inhabited α] (dec : α → List Value) (k : Nat) (e t : TypeId) (ht : Try.prog.underlying t = some (.slice e)) (hC : Try.prog.cellsOf e = k) (hk : 0 < k) (Q : α → Prop)
    (hd : ∀ n cs x, Trd enc W n e cs x → ∃ a, cs = dec a ∧ Q a) {fuel : Nat} {cs : List Value} {x : DataW H × List MemPlace} (h : Trd enc W fuel t cs x) :
    ∃ v l, cs = [v] ∧ SeesR W k dec v l ∧ (∀ a ∈ l, Q a) ∧ (0 < l.length → ∀ b, v.ownBlock = some b → b < W.heap.size) := by
  rcases open_slice ht h with ⟨hcs, hx⟩ | ⟨a, len, cap, m, n, D, Pl, hcs, _, hl, hm, hmm, hx, hi⟩
  · exact ⟨_, [], hcs, SeesR.nil W, (fun a ha => by cases ha), (fun h => by simp at h)⟩
  · simp only [if_true] at hmm
    subst hmm
    rw [hC] at hi
    have hi' : ∀ i, i < m → ∃ y : α, (∀ j u, (dec y)[j]? = some u → W.cell? (a.add (i * k + j)) = some u) ∧ (dec y).length = k ∧ Q y := by
      intro i hlt
      obtain ⟨cs', hc, ht'⟩ := hi i hlt
      obtain ⟨y, rfl, hq⟩ := hd _ _ _ ht'
      obtain ⟨_, hcl, hat⟩ := World.cells?_some hc
      refine ⟨y, fun j u hu => ?_, hcl, hq⟩
      have hj : j < k := by rw [← hcl]; exact (List.getElem?_eq_some_iff.1 hu).1
      rw [← Go.Deep.add_add, hat j hj, hu]
    obtain ⟨f, hf⟩ := choose_lt hi'
    refine ⟨_, (List.range len).map f, hcs, ⟨some a, m, by simp, by simpa using hl, hm, fun h => (by cases h), fun a' ha => ?_⟩, ?_, ?_⟩
    · cases ha
      refine ⟨fun hc => ?_, fun j y hj i u hu => ?_⟩
      · obtain ⟨h1, h2, _⟩ := hf 0 hc
        have h0 : (dec (f 0))[0]? = some ((dec (f 0))[0]'(by omega)) := List.getElem?_eq_getElem _
        have := h1 0 _ h0
        have hs := World.cell?_spot this
        simpa [Addr.add] using hs
      · have hjl : j < len := by have := (List.getElem?_eq_some_iff.1 hj).1; simpa using this
        have : y = f j := by simp [hjl] at hj; exact hj.symm
        subst this
        exact (hf j (by omega)).1 i u hu
    · intro y hy
      obtain ⟨j, hj, rfl⟩ := List.mem_map.1 hy
      exact (hf j (by have := List.mem_range.1 hj; omega)).2.2
    · intro h0 b hb
      have hlen : 0 < len := by simpa using h0
      obtain ⟨h1, h2, _⟩ := hf 0 (by omega)
      have h0' : (dec (f 0))[0]? = some ((dec (f 0))[0]'(by omega)) := List.getElem?_eq_getElem _
      have hc := World.block_lt_of_cell? _ _ (h1 0 _ h0')
      simp [Value.ownBlock] at hb
      subst hb
      rwa [block_add] at hc

/-- an int64, an int -/
theorem i64_range {z : Int} (h : (Lit.int .i64 z).wf = true) : -9223372036854775808 ≤ z ∧ z ≤ 9223372036854775807 := by
  simpa [Lit.wf, IntKind.min, IntKind.max, IntKind.signed, IntKind.bits] using h
theorem u64_range {z : Int} (h : (Lit.int .u64 z).wf = true) : 0 ≤ z ∧ z ≤ 18446744073709551615 := by
  simpa [Lit.wf, IntKind.min, IntKind.max, IntKind.signed, IntKind.bits] using h

theorem cells_value : Try.prog.cellsOf 64 = 4 := by kernel_rfl
theorem cells_int : Try.prog.cellsOf 3 = 1 := by kernel_rfl
theorem cells_i64 : Try.prog.cellsOf 2 = 1 := by kernel_rfl
theorem cells_u64 : Try.prog.cellsOf 24 = 1 := by kernel_rfl
theorem cells_string : Try.prog.cellsOf 9 = 1 := by kernel_rfl
theorem cells_bool : Try.prog.cellsOf 4 = 1 := by kernel_rfl
theorem cells_attr : Try.prog.cellsOf 66 = 5 := by kernel_rfl
theorem cells_attrs : Try.prog.cellsOf 36 = 1 := by kernel_rfl
theorem cells_event : Try.prog.cellsOf 38 = 2 := by kernel_rfl
theorem cells_item : Try.prog.cellsOf 40 = 4 := by kernel_rfl

theorem field_at {fs : Array Field} {xs : List (DataW H × List MemPlace)} {n : Nat} {cs : List Value}
    (hf : ∀ (i : Nat) (f : Field), fs[i]? = some f → DataW.trod enc Try.prog W 0 (fun _ => true) true n f.type ((cs.drop f.offset).take (Try.prog.cellsOf f.type)) = xs[i]?) (hl : xs.length = fs.size)
    (i : Nat) (t : TypeId) (off k : Nat) (f : Field) (h : fs[i]? = some f) (ht : f.type = t) (ho : f.offset = off) (hk : Try.prog.cellsOf t = k) : ∃ y, Trd enc W n t ((cs.drop off).take k) y := by
  subst ht ho hk
  have h1 := hf i f h
  have hi : i < xs.length := by rw [hl]; exact (Array.getElem?_eq_some_iff.1 h).1
  exact ⟨xs[i], h1.trans (List.getElem?_eq_getElem hi)⟩

theorem trod_value {n : Nat} {cs : List Value} {x : DataW H × List MemPlace} (h : Trd enc W n 64 cs x) :
    ∃ v : Val, cs = [.int .i64 v.kind, .int .i64 v.num, .string v.str, .bool v.is] ∧ (-9223372036854775808 ≤ v.num ∧ v.num ≤ 9223372036854775807) ∧ (-9223372036854775808 ≤ v.kind ∧ v.kind ≤ 9223372036854775807) ∧ v.str.size ≤ maxLen := by
  obtain ⟨xs, n', _, _, hlen, hl, hf⟩ := DataW.trod_struct Try.underlying64 h
  rw [cells_value] at hlen
  match cs, hlen with
  | [c0, c1, c2, c3], _ =>
    obtain ⟨y0, g0⟩ := field_at hf hl 0 3 0 1 _ rfl rfl rfl cells_int
    obtain ⟨y1, g1⟩ := field_at hf hl 1 2 1 1 _ rfl rfl rfl cells_i64
    obtain ⟨y2, g2⟩ := field_at hf hl 2 9 2 1 _ rfl rfl rfl cells_string
    obtain ⟨y3, g3⟩ := field_at hf hl 3 4 3 1 _ rfl rfl rfl cells_bool
    obtain ⟨z0, e0, _, w0⟩ := DataW.trod_int Try.underlying3 g0
    obtain ⟨z1, e1, _, w1⟩ := DataW.trod_int Try.underlying2 g1
    obtain ⟨z2, e2, _, w2⟩ := DataW.trod_string Try.underlying9 g2
    obtain ⟨z3, e3, _⟩ := DataW.trod_bool Try.underlying4 g3
    simp only [List.drop_zero, List.drop_succ_cons, List.take_succ_cons, List.take_zero, List.cons.injEq, and_true] at e0 e1 e2 e3
    subst e0 e1 e2 e3
    exact ⟨⟨z0, z1, z2, z3⟩, rfl, i64_range w1, i64_range w0, w2⟩

instance : Inhabited At := ⟨⟨⟨#[]⟩, ⟨0, 0, ⟨#[]⟩, false⟩⟩⟩
theorem trod_attr {n : Nat} {cs : List Value} {x : DataW H × List MemPlace} (h : Trd enc W n 66 cs x) :
    ∃ a : At, cs = a.cells ∧ (a.name.size ≤ 9223372036854775807 ∧ -9223372036854775808 ≤ a.val.num ∧ a.val.num ≤ 9223372036854775807) := by
  obtain ⟨xs, n', _, _, hlen, hl, hf⟩ := DataW.trod_struct Try.underlying66 h
  rw [cells_attr] at hlen
  match cs, hlen with
  | [c0, c1, c2, c3, c4], _ =>
    obtain ⟨y0, g0⟩ := field_at hf hl 0 9 0 1 _ rfl rfl rfl cells_string
    obtain ⟨y1, g1⟩ := field_at hf hl 1 64 1 4 _ rfl rfl rfl cells_value
    obtain ⟨z0, e0, _, w0⟩ := DataW.trod_string Try.underlying9 g0
    obtain ⟨v, e1, hv, _⟩ := trod_value g1
    simp only [List.drop_zero, List.drop_succ_cons, List.take_succ_cons, List.take_zero, List.cons.injEq, and_true] at e0 e1
    obtain ⟨rfl, rfl, rfl, rfl⟩ := e1
    subst e0
    exact ⟨⟨z0, v⟩, rfl, by unfold maxLen at w0; exact w0, hv⟩
theorem trod_attrs {n : Nat} {cs : List Value} {x : DataW H × List MemPlace} (h : Trd enc W n 36 cs x) :
    ∃ v l, cs = [v] ∧ SeesA W v l ∧ Fits l ∧ (0 < l.length → ∀ b, v.ownBlock = some b → b < W.heap.size) := by
  obtain ⟨v, l, h1, h2, h3, h4⟩ := trod_rows At.cells 5 66 36 Try.underlying36 cells_attr (by decide) _ (fun n cs x hh => trod_attr hh) h
  exact ⟨v, l, h1, h2, h3, h4⟩
theorem trod_event {n : Nat} {cs : List Value} {x : DataW H × List MemPlace} (h : Trd enc W n 38 cs x) :
    ∃ (key : ByteArray) (v : Value) (l : List At), cs = [.string key, v] ∧ SeesA W v l ∧ Fits l ∧ (0 < l.length → ∀ b, v.ownBlock = some b → b < W.heap.size) ∧ key.size ≤ maxLen := by
  obtain ⟨xs, n', _, _, hlen, hl, hf⟩ := DataW.trod_struct Try.underlying38 h
  rw [cells_event] at hlen
  match cs, hlen with
  | [c0, c1], _ =>
    obtain ⟨y0, g0⟩ := field_at hf hl 0 9 0 1 _ rfl rfl rfl cells_string
    obtain ⟨y1, g1⟩ := field_at hf hl 1 36 1 1 _ rfl rfl rfl cells_attrs
    obtain ⟨z0, e0, _, w0⟩ := DataW.trod_string Try.underlying9 g0
    obtain ⟨v, l, e1, h1, h2, h3⟩ := trod_attrs g1
    simp only [List.drop_zero, List.drop_succ_cons, List.take_succ_cons, List.take_zero, List.cons.injEq, and_true] at e0 e1
    subst e0 e1
    exact ⟨z0, _, l, rfl, h1, h2, h3, w0⟩
instance : Inhabited It := ⟨⟨0, 0, ⟨#[]⟩, .slice none 0 0, []⟩⟩
theorem trod_item {n : Nat} {cs : List Value} {x : DataW H × List MemPlace} (h : Trd enc W n 40 cs x) :
    ∃ a : It, cs = a.cells ∧ a.fine W := by
  obtain ⟨xs, n', _, _, hlen, hl, hf⟩ := DataW.trod_struct Try.underlying40 h
  rw [cells_item] at hlen
  match cs, hlen with
  | [c0, c1, c2, c3], _ =>
    obtain ⟨y0, g0⟩ := field_at hf hl 0 24 0 1 _ rfl rfl rfl cells_u64
    obtain ⟨y1, g1⟩ := field_at hf hl 1 24 1 1 _ rfl rfl rfl cells_u64
    obtain ⟨y2, g2⟩ := field_at hf hl 2 38 2 2 _ rfl rfl rfl cells_event
    obtain ⟨z0, e0, _, w0⟩ := DataW.trod_int Try.underlying24 g0
    obtain ⟨z1, e1, _, w1⟩ := DataW.trod_int Try.underlying24 g1
    obtain ⟨key, v, l, e2, h1, h2, h3, _⟩ := trod_event g2
    simp only [List.drop_zero, List.drop_succ_cons, List.take_succ_cons, List.take_zero, List.cons.injEq, and_true] at e0 e1 e2
    obtain ⟨rfl, rfl⟩ := e2
    subst e0 e1
    have r0 := u64_range w0
    have r1 := u64_range w1
    obtain ⟨a, rfl⟩ := Int.eq_ofNat_of_zero_le r0.1
    obtain ⟨b, rfl⟩ := Int.eq_ofNat_of_zero_le r1.1
    exact ⟨⟨a, b, key, _, l⟩, rfl, h1, h3, h2, by show a < _; omega, by show b < _; omega⟩
theorem trod_items {n : Nat} {cs : List Value} {x : DataW H × List MemPlace} (h : Trd enc W n 25 cs x) : ∃ v l, cs = [v] ∧ Items W v l := by
  obtain ⟨v, l, h1, h2, h3, _⟩ := trod_rows It.cells 4 40 25 Try.underlying25 cells_item (by decide) _ (fun n cs x hh => trod_item hh) h
  exact ⟨v, l, h1, h2, h3⟩
/-- items that came in -/
theorem read_items {base : Nat} {v : Value} {d : DataW H} {p : List MemPlace} (hv : Value.okWide Try.prog W .any base 25 v) (h : DataW.Trod enc Try.prog W 0 (fun _ => true) true 25 v d p) : ∃ l, Items W v l := by
  obtain ⟨a, len, cap, rfl⟩ := okWide_slice Try.underlying25 hv
  obtain ⟨fuel, hf⟩ := h
  obtain ⟨v, l, hc, hs⟩ := trod_items hf
  simp only [Value.cells, List.cons.injEq, and_true] at hc
  subst hc
  exact ⟨l, hs⟩
/-- an item that came in -/
theorem read_item {base : Nat} {v : Value} {d : DataW H} {p : List MemPlace} (hv : Value.okWide Try.prog W .any base 40 v) (h : DataW.Trod enc Try.prog W 0 (fun _ => true) true 40 v d p) : ∃ x : It, v = .agg x.cells.toArray ∧ x.fine W := by
  obtain ⟨cs, rfl, hsz⟩ := okWide_struct Try.underlying40 hv
  obtain ⟨fuel, hf⟩ := h
  obtain ⟨x, hc, hx⟩ := trod_item hf
  refine ⟨x, ?_, hx⟩
  simp only [Value.cells] at hc
  rw [← hc]
/-- a policy that came in -/
theorem read_policy {base : Nat} {v : Value} {d : DataW H} {p : List MemPlace} (hv : Value.okWide Try.prog W .any base 23 v) (h : DataW.Trod enc Try.prog W 0 (fun _ => true) true 23 v d p) :
    ∃ q : Pol, v = .agg q.cells ∧ (-9223372036854775808 ≤ q.age ∧ q.age ≤ 9223372036854775807) ∧ (-9223372036854775808 ≤ q.bytes ∧ q.bytes ≤ 9223372036854775807) ∧ (-9223372036854775808 ≤ q.count ∧ q.count ≤ 9223372036854775807) := by
  obtain ⟨cs, rfl, hsz⟩ := okWide_struct Try.underlying23 hv
  obtain ⟨fuel, hf'⟩ := h
  obtain ⟨xs, n', _, _, hlen, hl, hf⟩ := DataW.trod_struct Try.underlying23 hf'
  obtain ⟨l⟩ := cs
  have h3 : Try.prog.cellsOf 23 = 3 := by kernel_rfl
  rw [h3] at hlen
  simp only [Value.cells] at hlen hf
  match l, hlen with
  | [c0, c1, c2], _ =>
    obtain ⟨y0, g0⟩ := field_at hf hl 0 3 0 1 _ rfl rfl rfl cells_int
    obtain ⟨y1, g1⟩ := field_at hf hl 1 3 1 1 _ rfl rfl rfl cells_int
    obtain ⟨y2, g2⟩ := field_at hf hl 2 3 2 1 _ rfl rfl rfl cells_int
    obtain ⟨z0, e0, _, w0⟩ := DataW.trod_int Try.underlying3 g0
    obtain ⟨z1, e1, _, w1⟩ := DataW.trod_int Try.underlying3 g1
    obtain ⟨z2, e2, _, w2⟩ := DataW.trod_int Try.underlying3 g2
    simp only [List.drop_zero, List.drop_succ_cons, List.take_succ_cons, List.take_zero, List.cons.injEq, and_true] at e0 e1 e2
    subst e0 e1 e2
    exact ⟨⟨z0, z1, z2⟩, rfl, i64_range w0, i64_range w1, i64_range w2⟩
/-- a number that came in -/
theorem read_u64 {base : Nat} {v : Value} {d : DataW H} {p : List MemPlace} (hv : Value.okWide Try.prog W .any base 24 v) (h : DataW.Trod enc Try.prog W 0 (fun _ => true) true 24 v d p) : ∃ n : Nat, v = .int .u64 n ∧ n < 18446744073709551616 := by
  obtain ⟨z, rfl, rfl, rfl, wn⟩ := open_int Try.underlying24 hv h
  have hr := u64_range wn
  obtain ⟨m, rfl⟩ := Int.eq_ofNat_of_zero_le hr.1
  exact ⟨m, rfl, by omega⟩
end
end Go.Proofs.Ytpehpidlcdfhcaa
