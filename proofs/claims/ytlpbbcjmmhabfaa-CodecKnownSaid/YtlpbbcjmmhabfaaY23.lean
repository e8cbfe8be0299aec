/- DERIVED. How arguments read: rows of structs; values, named values, events, items, policies. · DERIVED. The document's order of values: when it says 0. -/
import Derived.Test.YtlpbbcjmmhabfaaRows
import Derived.Test.YtlpbbcjmmhabfaaY12
import Derived.Test.YtlpbbcjmmhabfaaY10
import Derived.Test.YtlpbbcjmmhabfaaY18
import Derived.Test.YtlpbbcjmmhabfaaY09
import Derived.Test.YtlpbbcjmmhabfaaY22
import Derived.ProofKit
import Derived.OpenShut
import Derived.Deep.Slices
import Derived.Deep.Fields
import Derived.Test.YtlpbbcjmmhabfaaY05
import Derived.Test.YtlpbbcjmmhabfaaY04
namespace Go.Proofs.Ytlpbbcjmmhabfaa
open Go.ChangeShapes Go.WideShapes Go.ChangeAt Go.RowKit Go.Deep

section
variable {H : Type} {enc : TypeId × Value → H} {W : World}
abbrev Trd (enc : TypeId × Value → H) (W : World) (fuel : Nat) (t : TypeId) (cs : List Value) (x : DataW H × List MemPlace) : Prop := DataW.trod enc Try.prog W 0 (fun _ => true) true fuel t cs = some x

/-- a slice of rows among what came in -/
theorem trod_rows_b {α : Type} [Inhabited α] (dec : α → List Value) (k : Nat) (e t : TypeId) (ht : Try.prog.underlying t = some (.slice e)) (hC : Try.prog.cellsOf e = k) (hk : 0 < k) (Q : α → Prop)
    (hd : ∀ n cs x, Trd enc W n e cs x → ∃ a, cs = dec a ∧ Q a) {fuel : Nat} {cs : List Value} {x : DataW H × List MemPlace} (h : Trd enc W fuel t cs x) :
    ∃ v l, cs = [v] ∧ SeesR W k dec v l ∧ (∀ a ∈ l, Q a) ∧ (0 < l.length → ∀ b, v.ownBlock = some b → b < W.heap.size) ∧ l.length < Rows.uptoBulk x.1 := by
  rcases open_slice ht h with ⟨hcs, hx⟩ | ⟨a, len, cap, m, n, D, Pl, hcs, _, hl, hm, hmm, hx, hi⟩
  · exact ⟨_, [], hcs, SeesR.nil W, (fun a ha => by cases ha), (fun h => by simp at h), one_le_bulk x.1⟩
  · simp only [if_true] at hmm
    subst hmm
    rw [hC] at hi
    have hi' : ∀ i, i < m → ∃ y : α, (∀ j u, (dec y)[j]? = some u → W.cell? (a.add (i * k + j)) = some u) ∧ (dec y).length = k ∧ Q y := by
      intro i hlt
      obtain ⟨cs', hc, ht'⟩ := hi i hlt
      obtain ⟨y, rfl, hq⟩ := hd _ _ _ ht'
      obtain ⟨_, hcl, hat⟩ := World.cells?_some hc
      refine ⟨y, fun j u hu => ?_, hcl, hq⟩
      have hj : j < k := by rw [← hcl]; exact (List.getElem?_eq_some_iff.1 hu).1
      rw [← Go.Deep.add_add, hat j hj, hu]
    obtain ⟨f, hf⟩ := choose_lt hi'
    refine ⟨_, (List.range len).map f, hcs, ⟨some a, m, by simp, by simpa using hl, hm, fun h => (by cases h), fun a' ha => ?_⟩, ?_, ?_, ?_⟩
    · cases ha
      refine ⟨fun hc => ?_, fun j y hj i u hu => ?_⟩
      · obtain ⟨h1, h2, _⟩ := hf 0 hc
        have h0 : (dec (f 0))[0]? = some ((dec (f 0))[0]'(by omega)) := List.getElem?_eq_getElem _
        have := h1 0 _ h0
        have hs := World.cell?_spot this
        simpa [Addr.add] using hs
      · have hjl : j < len := by have := (List.getElem?_eq_some_iff.1 hj).1; simpa using this
        have : y = f j := by simp [hjl] at hj; exact hj.symm
        subst this
        exact (hf j (by omega)).1 i u hu
    · intro y hy
      obtain ⟨j, hj, rfl⟩ := List.mem_map.1 hy
      exact (hf j (by have := List.mem_range.1 hj; omega)).2.2
    · intro h0 b hb
      have hlen : 0 < len := by simpa using h0
      obtain ⟨h1, h2, _⟩ := hf 0 (by omega)
      have h0' : (dec (f 0))[0]? = some ((dec (f 0))[0]'(by omega)) := List.getElem?_eq_getElem _
      have hc := World.block_lt_of_cell? _ _ (h1 0 _ h0')
      simp [Value.ownBlock] at hb
      subst hb
      rwa [block_add] at hc
    · subst hx
      have h1 := elems_bulk ((List.range len).map D) ((List.range (m - len)).map fun j => D (len + j))
      have h2 := length_bulk ((List.range len).map D)
      simp only [List.length_map, List.length_range] at h2 ⊢
      omega

theorem trod_rows {α : Type} [Inhabited α] (dec : α → List Value) (k : Nat) (e t : TypeId) (ht : Try.prog.underlying t = some (.slice e)) (hC : Try.prog.cellsOf e = k) (hk : 0 < k) (Q : α → Prop)
    (hd : ∀ n cs x, Trd enc W n e cs x → ∃ a, cs = dec a ∧ Q a) {fuel : Nat} {cs : List Value} {x : DataW H × List MemPlace} (h : Trd enc W fuel t cs x) :
    ∃ v l, cs = [v] ∧ SeesR W k dec v l ∧ (∀ a ∈ l, Q a) ∧ (0 < l.length → ∀ b, v.ownBlock = some b → b < W.heap.size) := by
  obtain ⟨v, l, h1, h2, h3, h4, _⟩ := trod_rows_b dec k e t ht hC hk Q hd h
  exact ⟨v, l, h1, h2, h3, h4⟩

/-- an int64, an int -/
theorem i64_range {z : Int} (h : (Lit.int .i64 z).wf = true) : -9223372036854775808 ≤ z ∧ z ≤ 9223372036854775807 := by
  simpa [Lit.wf, IntKind.min, IntKind.max, IntKind.signed, IntKind.bits] using h
theorem u64_range {z : Int} (h : (Lit.int .u64 z).wf = true) : 0 ≤ z ∧ z ≤ 18446744073709551615 := by
  simpa [Lit.wf, IntKind.min, IntKind.max, IntKind.signed, IntKind.bits] using h

theorem cells_value : Try.prog.cellsOf 78 = 4 := by kernel_rfl
theorem cells_int : Try.prog.cellsOf 3 = 1 := by kernel_rfl
theorem cells_i64 : Try.prog.cellsOf 2 = 1 := by kernel_rfl
theorem cells_u64 : Try.prog.cellsOf 44 = 1 := by kernel_rfl
theorem cells_string : Try.prog.cellsOf 9 = 1 := by kernel_rfl
theorem cells_bool : Try.prog.cellsOf 4 = 1 := by kernel_rfl
theorem cells_attr : Try.prog.cellsOf 80 = 5 := by kernel_rfl
theorem cells_attrs : Try.prog.cellsOf 22 = 1 := by kernel_rfl
theorem cells_event : Try.prog.cellsOf 24 = 2 := by kernel_rfl
theorem cells_item : Try.prog.cellsOf 46 = 4 := by kernel_rfl

theorem field_at {fs : Array Field} {xs : List (DataW H × List MemPlace)} {n : Nat} {cs : List Value}
    (hf : ∀ (i : Nat) (f : Field), fs[i]? = some f → DataW.trod enc Try.prog W 0 (fun _ => true) true n f.type ((cs.drop f.offset).take (Try.prog.cellsOf f.type)) = xs[i]?) (hl : xs.length = fs.size)
    (i : Nat) (t : TypeId) (off k : Nat) (f : Field) (h : fs[i]? = some f) (ht : f.type = t) (ho : f.offset = off) (hk : Try.prog.cellsOf t = k) : ∃ y, Trd enc W n t ((cs.drop off).take k) y := by
  subst ht ho hk
  have h1 := hf i f h
  have hi : i < xs.length := by rw [hl]; exact (Array.getElem?_eq_some_iff.1 h).1
  exact ⟨xs[i], h1.trans (List.getElem?_eq_getElem hi)⟩

set_option maxRecDepth 100000 in
theorem trod_value {n : Nat} {cs : List Value} {x : DataW H × List MemPlace} (h : Trd enc W n 78 cs x) :
    ∃ v : Val, cs = [.int .i64 v.kind, .int .i64 v.num, .string v.str, .bool v.is] ∧ (-9223372036854775808 ≤ v.num ∧ v.num ≤ 9223372036854775807) ∧ (-9223372036854775808 ≤ v.kind ∧ v.kind ≤ 9223372036854775807) ∧ v.str.size ≤ maxLen := by
  obtain ⟨xs, n', _, _, hlen, hl, hf⟩ := DataW.trod_struct Try.underlying78 h
  rw [cells_value] at hlen
  match cs, hlen with
  | [c0, c1, c2, c3], _ =>
    obtain ⟨y0, g0⟩ := field_at hf hl 0 3 0 1 _ rfl rfl rfl cells_int
    obtain ⟨y1, g1⟩ := field_at hf hl 1 2 1 1 _ rfl rfl rfl cells_i64
    obtain ⟨y2, g2⟩ := field_at hf hl 2 9 2 1 _ rfl rfl rfl cells_string
    obtain ⟨y3, g3⟩ := field_at hf hl 3 4 3 1 _ rfl rfl rfl cells_bool
    obtain ⟨z0, e0, _, w0⟩ := DataW.trod_int Try.underlying3 g0
    obtain ⟨z1, e1, _, w1⟩ := DataW.trod_int Try.underlying2 g1
    obtain ⟨z2, e2, _, w2⟩ := DataW.trod_string Try.underlying9 g2
    obtain ⟨z3, e3, _⟩ := DataW.trod_bool Try.underlying4 g3
    simp only [List.drop_zero, List.drop_succ_cons, List.take_succ_cons, List.take_zero, List.cons.injEq, and_true] at e0 e1 e2 e3
    subst e0 e1 e2 e3
    exact ⟨⟨z0, z1, z2, z3⟩, rfl, i64_range w1, i64_range w0, w2⟩

instance : Inhabited At := ⟨⟨⟨#[]⟩, ⟨0, 0, ⟨#[]⟩, false⟩⟩⟩
set_option maxRecDepth 100000 in
theorem trod_attr {n : Nat} {cs : List Value} {x : DataW H × List MemPlace} (h : Trd enc W n 80 cs x) :
    ∃ a : At, cs = a.cells ∧ (a.name.size ≤ 9223372036854775807 ∧ -9223372036854775808 ≤ a.val.num ∧ a.val.num ≤ 9223372036854775807) := by
  obtain ⟨xs, n', _, _, hlen, hl, hf⟩ := DataW.trod_struct Try.underlying80 h
  rw [cells_attr] at hlen
  match cs, hlen with
  | [c0, c1, c2, c3, c4], _ =>
    obtain ⟨y0, g0⟩ := field_at hf hl 0 9 0 1 _ rfl rfl rfl cells_string
    obtain ⟨y1, g1⟩ := field_at hf hl 1 78 1 4 _ rfl rfl rfl cells_value
    obtain ⟨z0, e0, _, w0⟩ := DataW.trod_string Try.underlying9 g0
    obtain ⟨v, e1, hv, _⟩ := trod_value g1
    simp only [List.drop_zero, List.drop_succ_cons, List.take_succ_cons, List.take_zero, List.cons.injEq, and_true] at e0 e1
    obtain ⟨rfl, rfl, rfl, rfl⟩ := e1
    subst e0
    exact ⟨⟨z0, v⟩, rfl, by unfold maxLen at w0; exact w0, hv⟩
theorem trod_attrs {n : Nat} {cs : List Value} {x : DataW H × List MemPlace} (h : Trd enc W n 22 cs x) :
    ∃ v l, cs = [v] ∧ SeesA W v l ∧ Fits l ∧ (0 < l.length → ∀ b, v.ownBlock = some b → b < W.heap.size) := by
  obtain ⟨v, l, h1, h2, h3, h4⟩ := trod_rows At.cells 5 80 22 Try.underlying22 cells_attr (by decide) _ (fun n cs x hh => trod_attr hh) h
  exact ⟨v, l, h1, h2, h3, h4⟩
set_option maxRecDepth 100000 in
theorem trod_event {n : Nat} {cs : List Value} {x : DataW H × List MemPlace} (h : Trd enc W n 24 cs x) :
    ∃ (key : ByteArray) (v : Value) (l : List At), cs = [.string key, v] ∧ SeesA W v l ∧ Fits l ∧ (0 < l.length → ∀ b, v.ownBlock = some b → b < W.heap.size) ∧ key.size ≤ maxLen := by
  obtain ⟨xs, n', _, _, hlen, hl, hf⟩ := DataW.trod_struct Try.underlying24 h
  rw [cells_event] at hlen
  match cs, hlen with
  | [c0, c1], _ =>
    obtain ⟨y0, g0⟩ := field_at hf hl 0 9 0 1 _ rfl rfl rfl cells_string
    obtain ⟨y1, g1⟩ := field_at hf hl 1 22 1 1 _ rfl rfl rfl cells_attrs
    obtain ⟨z0, e0, _, w0⟩ := DataW.trod_string Try.underlying9 g0
    obtain ⟨v, l, e1, h1, h2, h3⟩ := trod_attrs g1
    simp only [List.drop_zero, List.drop_succ_cons, List.take_succ_cons, List.take_zero, List.cons.injEq, and_true] at e0 e1
    subst e0 e1
    exact ⟨z0, _, l, rfl, h1, h2, h3, w0⟩
def Items (w : World) (lv : Value) (l : List It) : Prop := SeesR w 4 It.cells lv l ∧ ∀ x ∈ l, x.fine w
instance : Inhabited It := ⟨⟨0, 0, ⟨#[]⟩, .slice none 0 0, []⟩⟩
set_option maxRecDepth 100000 in
theorem trod_item {n : Nat} {cs : List Value} {x : DataW H × List MemPlace} (h : Trd enc W n 46 cs x) :
    ∃ a : It, cs = a.cells ∧ a.fine W := by
  obtain ⟨xs, n', _, _, hlen, hl, hf⟩ := DataW.trod_struct Try.underlying46 h
  rw [cells_item] at hlen
  match cs, hlen with
  | [c0, c1, c2, c3], _ =>
    obtain ⟨y0, g0⟩ := field_at hf hl 0 44 0 1 _ rfl rfl rfl cells_u64
    obtain ⟨y1, g1⟩ := field_at hf hl 1 44 1 1 _ rfl rfl rfl cells_u64
    obtain ⟨y2, g2⟩ := field_at hf hl 2 24 2 2 _ rfl rfl rfl cells_event
    obtain ⟨z0, e0, _, w0⟩ := DataW.trod_int Try.underlying44 g0
    obtain ⟨z1, e1, _, w1⟩ := DataW.trod_int Try.underlying44 g1
    obtain ⟨key, v, l, e2, h1, h2, h3, _⟩ := trod_event g2
    simp only [List.drop_zero, List.drop_succ_cons, List.take_succ_cons, List.take_zero, List.cons.injEq, and_true] at e0 e1 e2
    obtain ⟨rfl, rfl⟩ := e2
    subst e0 e1
    have r0 := u64_range w0
    have r1 := u64_range w1
    obtain ⟨a, rfl⟩ := Int.eq_ofNat_of_zero_le r0.1
    obtain ⟨b, rfl⟩ := Int.eq_ofNat_of_zero_le r1.1
    exact ⟨⟨a, b, key, _, l⟩, rfl, h1, h3, h2, by show a < _; omega, by show b < _; omega⟩
set_option maxRecDepth 100000 in
theorem trod_items {n : Nat} {cs : List Value} {x : DataW H × List MemPlace} (h : Trd enc W n 47 cs x) : ∃ v l, cs = [v] ∧ Items W v l := by
  obtain ⟨v, l, h1, h2, h3, _⟩ := trod_rows It.cells 4 46 47 Try.underlying47 cells_item (by decide) _ (fun n cs x hh => trod_item hh) h
  exact ⟨v, l, h1, h2, h3⟩
set_option maxRecDepth 100000 in
theorem read_items {base : Nat} {v : Value} {d : DataW H} {p : List MemPlace} (hv : Value.okWide Try.prog W .any base 47 v) (h : DataW.Trod enc Try.prog W 0 (fun _ => true) true 47 v d p) : ∃ l, Items W v l := by
  obtain ⟨a, len, cap, rfl⟩ := okWide_slice Try.underlying47 hv
  obtain ⟨fuel, hf⟩ := h
  obtain ⟨v, l, hc, hs⟩ := trod_items hf
  simp only [Value.cells, List.cons.injEq, and_true] at hc
  subst hc
  exact ⟨l, hs⟩
set_option maxRecDepth 100000 in
theorem read_item {base : Nat} {v : Value} {d : DataW H} {p : List MemPlace} (hv : Value.okWide Try.prog W .any base 46 v) (h : DataW.Trod enc Try.prog W 0 (fun _ => true) true 46 v d p) : ∃ x : It, v = .agg x.cells.toArray ∧ x.fine W := by
  obtain ⟨cs, rfl, hsz⟩ := okWide_struct Try.underlying46 hv
  obtain ⟨fuel, hf⟩ := h
  obtain ⟨x, hc, hx⟩ := trod_item hf
  refine ⟨x, ?_, hx⟩
  simp only [Value.cells] at hc
  rw [← hc]
theorem cells_con : Try.prog.cellsOf 105 = 7 := by kernel_rfl
theorem cells_vals : Try.prog.cellsOf 103 = 1 := by kernel_rfl
theorem cells_gap : Try.prog.cellsOf 82 = 2 := by kernel_rfl
theorem cells_page : Try.prog.cellsOf 50 = 5 := by kernel_rfl
theorem cells_items : Try.prog.cellsOf 47 = 1 := by kernel_rfl
theorem cells_gaps : Try.prog.cellsOf 48 = 1 := by kernel_rfl
instance : Inhabited Val := ⟨⟨0, 0, ⟨#[]⟩, false⟩⟩
instance : Inhabited Con := ⟨⟨⟨#[]⟩, 0, ⟨0, 0, ⟨#[]⟩, false⟩, .slice none 0 0, []⟩⟩
theorem trod_vals {n : Nat} {cs : List Value} {x : DataW H × List MemPlace} (h : Trd enc W n 103 cs x) :
    ∃ v l, cs = [v] ∧ SeesV W v l ∧ (∀ v ∈ l, -9223372036854775808 ≤ v.num ∧ v.num ≤ 9223372036854775807) ∧ (0 < l.length → ∀ b, v.ownBlock = some b → b < W.heap.size) := by
  obtain ⟨v, l, h1, h2, h3, h4⟩ := trod_rows valL 4 78 103 Try.underlying103 cells_value (by decide) (fun v => -9223372036854775808 ≤ v.num ∧ v.num ≤ 9223372036854775807) (fun n cs x hh => by
    obtain ⟨v, e, g, _⟩ := trod_value hh
    exact ⟨v, e, g⟩) h
  exact ⟨v, l, h1, h2, h3, h4⟩
set_option maxRecDepth 100000 in
theorem trod_con {n : Nat} {cs : List Value} {x : DataW H × List MemPlace} (h : Trd enc W n 105 cs x) :
    ∃ a : Con, cs = a.cells ∧ a.fine W := by
  obtain ⟨xs, n', _, _, hlen, hl, hf⟩ := DataW.trod_struct Try.underlying105 h
  rw [cells_con] at hlen
  match cs, hlen with
  | [c0, c1, c2, c3, c4, c5, c6], _ =>
    obtain ⟨y0, g0⟩ := field_at hf hl 0 9 0 1 _ rfl rfl rfl cells_string
    obtain ⟨y1, g1⟩ := field_at hf hl 1 3 1 1 _ rfl rfl rfl cells_int
    obtain ⟨y2, g2⟩ := field_at hf hl 2 78 2 4 _ rfl rfl rfl cells_value
    obtain ⟨y3, g3⟩ := field_at hf hl 3 103 6 1 _ rfl rfl rfl cells_vals
    obtain ⟨z0, e0, _, w0⟩ := DataW.trod_string Try.underlying9 g0
    obtain ⟨z1, e1, _, w1⟩ := DataW.trod_int Try.underlying3 g1
    obtain ⟨v, e2, hv, _⟩ := trod_value g2
    obtain ⟨sv, l, e3, h1, h2, h3⟩ := trod_vals g3
    simp only [List.drop_zero, List.drop_succ_cons, List.take_succ_cons, List.take_zero, List.cons.injEq, and_true] at e0 e1 e2 e3
    obtain ⟨rfl, rfl, rfl, rfl⟩ := e2
    subst e0 e1 e3
    exact ⟨⟨z0, z1, v, _, l⟩, rfl, h1, ⟨by unfold maxLen at w0; exact w0, hv⟩, h2, h3⟩
theorem trod_pred {n : Nat} {cs : List Value} {x : DataW H × List MemPlace} (h : Trd enc W n 40 cs x) :
    ∃ v l, cs = [v] ∧ Cons W v l ∧ (0 < l.length → ∀ b, v.ownBlock = some b → b < W.heap.size) := by
  obtain ⟨v, l, h1, h2, h3, h4⟩ := trod_rows Con.cells 7 105 40 Try.underlying40 cells_con (by decide) (fun c => c.fine W) (fun n cs x hh => trod_con hh) h
  exact ⟨v, l, h1, ⟨h2, h3⟩, h4⟩
set_option maxRecDepth 100000 in
theorem trod_gap {n : Nat} {cs : List Value} {x : DataW H × List MemPlace} (h : Trd enc W n 82 cs x) :
    ∃ g : PGap, cs = gapL g ∧ (g.1 < 18446744073709551616 ∧ g.2 < 18446744073709551616) := by
  obtain ⟨xs, n', _, _, hlen, hl, hf⟩ := DataW.trod_struct Try.underlying82 h
  rw [cells_gap] at hlen
  match cs, hlen with
  | [c0, c1], _ =>
    obtain ⟨y0, g0⟩ := field_at hf hl 0 44 0 1 _ rfl rfl rfl cells_u64
    obtain ⟨y1, g1⟩ := field_at hf hl 1 44 1 1 _ rfl rfl rfl cells_u64
    obtain ⟨z0, e0, _, w0⟩ := DataW.trod_int Try.underlying44 g0
    obtain ⟨z1, e1, _, w1⟩ := DataW.trod_int Try.underlying44 g1
    simp only [List.drop_zero, List.drop_succ_cons, List.take_succ_cons, List.take_zero, List.cons.injEq, and_true] at e0 e1
    subst e0 e1
    have r0 := u64_range w0
    have r1 := u64_range w1
    obtain ⟨a, rfl⟩ := Int.eq_ofNat_of_zero_le r0.1
    obtain ⟨b, rfl⟩ := Int.eq_ofNat_of_zero_le r1.1
    exact ⟨(a, b), rfl, by show a < _; omega, by show b < _; omega⟩
theorem field_at_mem {fs : Array Field} {xs : List (DataW H × List MemPlace)} {n : Nat} {cs : List Value}
    (hf : ∀ (i : Nat) (f : Field), fs[i]? = some f → DataW.trod enc Try.prog W 0 (fun _ => true) true n f.type ((cs.drop f.offset).take (Try.prog.cellsOf f.type)) = xs[i]?) (hl : xs.length = fs.size)
    (i : Nat) (t : TypeId) (off k : Nat) (f : Field) (h : fs[i]? = some f) (ht : f.type = t) (ho : f.offset = off) (hk : Try.prog.cellsOf t = k) : ∃ y, Trd enc W n t ((cs.drop off).take k) y ∧ y ∈ xs := by
  subst ht ho hk
  have h1 := hf i f h
  have hi : i < xs.length := by rw [hl]; exact (Array.getElem?_eq_some_iff.1 h).1
  exact ⟨xs[i], h1.trans (List.getElem?_eq_getElem hi), List.getElem_mem hi⟩
theorem part_bulk_agg {y : DataW H × List MemPlace} {xs : List (DataW H × List MemPlace)} (h : y ∈ xs) : Rows.uptoBulk y.1 ≤ Rows.uptoBulk (.agg (xs.map (·.1))) := by
  have h1 := part_bulk (d := y.1) (l := xs.map (·.1)) (List.mem_map_of_mem h)
  simp only [Rows.uptoBulk]
  omega
set_option maxRecDepth 100000 in
theorem trod_page {n : Nat} {cs : List Value} {x : DataW H × List MemPlace} (h : Trd enc W n 50 cs x) :
    ∃ a : Pg, cs = a.cells ∧ a.fine W ∧ a.its.length < Rows.uptoBulk x.1 := by
  obtain ⟨xs, n', _, rfl, hlen, hl, hf⟩ := DataW.trod_struct Try.underlying50 h
  rw [cells_page] at hlen
  match cs, hlen with
  | [c0, c1, c2, c3, c4], _ =>
    obtain ⟨y0, g0⟩ := field_at hf hl 0 44 0 1 _ rfl rfl rfl cells_u64
    obtain ⟨y1, g1⟩ := field_at hf hl 1 44 1 1 _ rfl rfl rfl cells_u64
    obtain ⟨y2, g2, hy2⟩ := field_at_mem hf hl 2 47 2 1 _ rfl rfl rfl cells_items
    obtain ⟨y3, g3⟩ := field_at hf hl 3 48 3 1 _ rfl rfl rfl cells_gaps
    obtain ⟨y4, g4⟩ := field_at hf hl 4 4 4 1 _ rfl rfl rfl cells_bool
    obtain ⟨z0, e0, _, w0⟩ := DataW.trod_int Try.underlying44 g0
    obtain ⟨z1, e1, _, w1⟩ := DataW.trod_int Try.underlying44 g1
    obtain ⟨iv, its, e2, i1, i2, i3, i4⟩ := trod_rows_b It.cells 4 46 47 Try.underlying47 cells_item (by decide) (fun x => x.fine W) (fun n cs x hh => trod_item hh) g2
    obtain ⟨gv, gs, e3, j1, j2, j3⟩ := trod_rows gapL 2 82 48 Try.underlying48 cells_gap (by decide) (fun g => g.1 < 18446744073709551616 ∧ g.2 < 18446744073709551616) (fun n cs x hh => trod_gap hh) g3
    obtain ⟨z4, e4, _⟩ := DataW.trod_bool Try.underlying4 g4
    simp only [List.drop_zero, List.drop_succ_cons, List.take_succ_cons, List.take_zero, List.cons.injEq, and_true] at e0 e1 e2 e3 e4
    subst e0 e1 e2 e3 e4
    have r0 := u64_range w0
    have r1 := u64_range w1
    obtain ⟨a, rfl⟩ := Int.eq_ofNat_of_zero_le r0.1
    obtain ⟨b, rfl⟩ := Int.eq_ofNat_of_zero_le r1.1
    exact ⟨⟨a, b, _, its, _, gs, z4⟩, rfl, ⟨⟨i1, i2, j1⟩, j2, ⟨by show a < _; omega, by show b < _; omega⟩, i3, j3⟩, Nat.lt_of_lt_of_le i4 (part_bulk_agg hy2)⟩
set_option maxRecDepth 100000 in
theorem read_event {base : Nat} {v : Value} {d : DataW H} {p : List MemPlace} (hv : Value.okWide Try.prog W .any base 24 v) (h : DataW.Trod enc Try.prog W 0 (fun _ => true) true 24 v d p) :
    ∃ (key : ByteArray) (a : Value) (l : List At), v = .agg #[.string key, a] ∧ SeesA W a l ∧ Fits l ∧ (0 < l.length → ∀ b, a.ownBlock = some b → b < W.heap.size) := by
  obtain ⟨cs, rfl, hsz⟩ := okWide_struct Try.underlying24 hv
  obtain ⟨fuel, hf⟩ := h
  obtain ⟨key, a, l, hc, h1, h2, h3, _⟩ := trod_event hf
  refine ⟨key, a, l, ?_, h1, h2, h3⟩
  simp only [Value.cells] at hc
  obtain ⟨cs⟩ := cs
  simp only at hc
  rw [hc]
set_option maxRecDepth 100000 in
theorem read_page {base : Nat} {v : Value} {d : DataW H} {p : List MemPlace} (hv : Value.okWide Try.prog W .any base 50 v) (h : DataW.Trod enc Try.prog W 0 (fun _ => true) true 50 v d p) : ∃ x : Pg, v = .agg x.cells.toArray ∧ x.fine W ∧ x.its.length < Rows.uptoBulk d := by
  obtain ⟨cs, rfl, hsz⟩ := okWide_struct Try.underlying50 hv
  obtain ⟨fuel, hf⟩ := h
  obtain ⟨x, hc, hx⟩ := trod_page hf
  refine ⟨x, ?_, hx⟩
  simp only [Value.cells] at hc
  rw [← hc]
set_option maxRecDepth 100000 in
theorem read_pred {base : Nat} {v : Value} {d : DataW H} {p : List MemPlace} (hv : Value.okWide Try.prog W .any base 40 v) (h : DataW.Trod enc Try.prog W 0 (fun _ => true) true 40 v d p) :
    ∃ l, Cons W v l ∧ (0 < l.length → ∀ b, v.ownBlock = some b → b < W.heap.size) := by
  obtain ⟨a, len, cap, rfl⟩ := okWide_slice Try.underlying40 hv
  obtain ⟨fuel, hf⟩ := h
  obtain ⟨v, l, hc, h1, h2⟩ := trod_pred hf
  simp only [Value.cells, List.cons.injEq, and_true] at hc
  subst hc
  exact ⟨l, h1, h2⟩
set_option maxRecDepth 100000 in
theorem read_u64 {base : Nat} {v : Value} {d : DataW H} {p : List MemPlace} (hv : Value.okWide Try.prog W .any base 44 v) (h : DataW.Trod enc Try.prog W 0 (fun _ => true) true 44 v d p) : ∃ n : Nat, v = .int .u64 n ∧ n < 18446744073709551616 := by
  obtain ⟨z, rfl, rfl, rfl, wn⟩ := open_int Try.underlying44 hv h
  have hr := u64_range wn
  obtain ⟨m, rfl⟩ := Int.eq_ofNat_of_zero_le hr.1
  exact ⟨m, rfl, by omega⟩
end
end Go.Proofs.Ytlpbbcjmmhabfaa

namespace Go.Proofs.Ytlpbbcjmmhabfaa
open Go.RowKit

theorem less_irrefl : ∀ l : List UInt8, Op.bytesLess l l = false := by
  intro l
  induction l with
  | nil => rfl
  | cons a l ih => simp [Op.bytesLess, ih]
theorem less_total : ∀ l m : List UInt8, Op.bytesLess l m = false → Op.bytesLess m l = false → l = m := by
  intro l
  induction l with
  | nil => intro m h1 h2; cases m with
    | nil => rfl
    | cons b m => simp [Op.bytesLess] at h1
  | cons a l ih => intro m h1 h2; cases m with
    | nil => simp [Op.bytesLess] at h2
    | cons b m =>
      simp only [Op.bytesLess] at h1 h2
      by_cases hab : a = b
      · subst hab
        simp at h1 h2
        rw [ih m h1 h2]
      · simp at h1 h2
        exact absurd (UInt8.le_antisymm h2.1 h1.1) hab
theorem arr_ext {s t : ByteArray} (h : s.toList = t.toList) : s = t := by
  rw [ByteArray.toList_eq, ByteArray.toList_eq] at h
  obtain ⟨⟨a⟩⟩ := s
  obtain ⟨⟨b⟩⟩ := t
  simp at h
  rw [h]
theorem bytes_eq {s t : ByteArray} : (s == t) = true ↔ s = t := by
  obtain ⟨⟨a⟩⟩ := s
  obtain ⟨⟨b⟩⟩ := t
  show (Array.instBEq.beq _ _) = true ↔ _
  simp
/-- are these values the same by the order of values? -/
def likeV (a b : Val) : Prop := a.kind = b.kind ∧ (a.kind = 1 → a.num = b.num) ∧ (a.kind = 2 → a.str = b.str) ∧ (a.kind = 3 → a.is = b.is)

theorem likeV_num {n n' : Int} {s s' : ByteArray} {t t' : Bool} : likeV ⟨1, n, s, t⟩ ⟨1, n', s', t'⟩ ↔ n = n' := by simp [likeV]
theorem likeV_str {n n' : Int} {s s' : ByteArray} {t t' : Bool} : likeV ⟨2, n, s, t⟩ ⟨2, n', s', t'⟩ ↔ s = s' := by simp [likeV]
theorem likeV_is {n n' : Int} {s s' : ByteArray} {t t' : Bool} : likeV ⟨3, n, s, t⟩ ⟨3, n', s', t'⟩ ↔ t = t' := by simp [likeV]
theorem likeV_ne {k k' n n' : Int} {s s' : ByteArray} {t t' : Bool} (h : k ≠ k') : ¬ likeV ⟨k, n, s, t⟩ ⟨k', n', s', t'⟩ := fun g => h g.1
theorem likeV_no {k n n' : Int} {s s' : ByteArray} {t t' : Bool} (h : k ≠ 1 ∧ k ≠ 2 ∧ k ≠ 3) : likeV ⟨k, n, s, t⟩ ⟨k, n', s', t'⟩ := ⟨rfl, fun e => absurd e h.1, fun e => absurd e h.2.1, fun e => absurd e h.2.2⟩

/-- the order of values -/
def ordV (a b : Val) : Int :=
  if a.kind ≠ b.kind then (if a.kind < b.kind then -1 else 1)
  else if a.kind = 1 then (if a.num < b.num then -1 else if b.num < a.num then 1 else 0)
  else if a.kind = 2 then (if Op.bytesLess a.str.toList b.str.toList then -1 else if Op.bytesLess b.str.toList a.str.toList then 1 else 0)
  else if a.kind = 3 then (if !a.is && b.is then -1 else if a.is && !b.is then 1 else 0)
  else 0
theorem ordV_zero (a b : Val) : ordV a b = 0 ↔ likeV a b := by
  obtain ⟨k, n, s, t⟩ := a
  obtain ⟨k', n', s', t'⟩ := b
  unfold ordV likeV
  simp only
  by_cases hk : k = k'
  · subst hk
    by_cases h1 : k = 1
    · subst h1
      simp
      split <;> (try split) <;> omega
    · by_cases h2 : k = 2
      · subst h2
        simp
        cases d1 : Op.bytesLess s.toList s'.toList
        · cases d2 : Op.bytesLess s'.toList s.toList
          · simpa using arr_ext (less_total _ _ d1 d2)
          · simp; intro h; rw [h, less_irrefl] at d2; cases d2
        · simp; intro h; rw [h, less_irrefl] at d1; cases d1
      · by_cases h3 : k = 3
        · subst h3
          cases t <;> cases t' <;> simp
        · simp [h1, h2, h3]
  · simp [hk]
    split <;> simp

set_option maxRecDepth 100000 in
theorem ref_cmp_val_any (a b : Val) (w : World) : Calls Try.prog 129 #[.agg a.cells, .agg b.cells] w fun e w' => e = .returned (.int .i64 (ordV a b)) ∧ Old w w' := by
  have kw : Old w ((w.alloc (.cells a.cells 78)).alloc (.cells b.cells 78)) := ((Keeps.refl _ _).alloc _).alloc _
  have K := Lib.hid kw
  clear kw
  obtain ⟨k, n, s, t⟩ := a
  obtain ⟨k', n', s', t'⟩ := b
  unfold Val.cells at K ⊢
  simp only at K ⊢
  by_cases hk : k = k'
  case neg =>
    have h1 : (k != k') = true := by rw [bne_iff_ne]; exact hk
    have HK := Lib.hid hk
    clear hk
    by_cases hl : k < k'
    all_goals
      first | (have h2 : decide (k < k') = true := decide_eq_true hl) | (have h2 : decide (k < k') = false := decide_eq_false hl)
      have HL := Lib.hid hl
      clear hl
      go_enter Try.func129, Try.ntmps129
      go_wp2_with fail
      go_ret
      exact ⟨ret_int (by first | (simp [ordV, HK.out, HL.out]; done) | (simp [ordV, HK.out, HL.out])), K.out⟩
  subst hk
  have h1 : (k != k) = false := by simp
  by_cases h1k : k = 1
  · subst h1k
    have c1 : ((1 : Int) == 1) = true := rfl
    rcases Int.lt_trichotomy n n' with h | h | h
    · have d1 : decide (n < n') = true := decide_eq_true h
      have d2 : decide (n > n') = false := decide_eq_false (by omega)
      have H := Lib.hid h
      clear h
      go_enter Try.func129, Try.ntmps129
      go_wp2_with fail
      go_ret
      exact ⟨ret_int (by have := H.out; unfold ordV; simp; omega), K.out⟩
    · subst h
      have d1 : decide (n < n) = false := decide_eq_false (by omega)
      have d2 : decide (n > n) = false := decide_eq_false (by omega)
      go_enter Try.func129, Try.ntmps129
      go_wp2_with fail
      go_ret
      exact ⟨ret_int (by simp [ordV]), K.out⟩
    · have d1 : decide (n < n') = false := decide_eq_false (by omega)
      have d2 : decide (n > n') = true := decide_eq_true h
      have H := Lib.hid h
      clear h
      go_enter Try.func129, Try.ntmps129
      go_wp2_with fail
      go_ret
      exact ⟨ret_int (by have := H.out; unfold ordV; simp; omega), K.out⟩
  have c1 : (k == 1) = false := by simpa using h1k
  by_cases h2k : k = 2
  · subst h2k
    have c2 : ((2 : Int) == 2) = true := rfl
    cases d1 : Op.bytesLess s.toList s'.toList
    · cases d2 : Op.bytesLess s'.toList s.toList
      · have hs := Lib.hid (arr_ext (less_total _ _ d1 d2))
        have D := Lib.hid (And.intro d1 d2)
        have e : (s.toList == s'.toList) = true := by rw [hs.out]; simp
        go_enter Try.func129, Try.ntmps129
        go_wp2_with fail
        go_ret
        exact ⟨ret_int (by simp [ordV, D.out.1, D.out.2]), K.out⟩
      · have hs : Hid (s ≠ s') := Lib.hid (fun h => by rw [h, less_irrefl] at d2; cases d2)
        have D := Lib.hid (And.intro d1 d2)
        have e : (s.toList == s'.toList) = false := by rw [beq_eq_false_iff_ne]; exact fun h => hs.out (arr_ext h)
        go_enter Try.func129, Try.ntmps129
        go_wp2_with fail
        go_ret
        exact ⟨ret_int (by simp [ordV, D.out.1, D.out.2]), K.out⟩
    · have hs : Hid (s ≠ s') := Lib.hid (fun h => by rw [h, less_irrefl] at d1; cases d1)
      cases d2 : Op.bytesLess s'.toList s.toList
      all_goals
        have D := Lib.hid (And.intro d1 d2)
        go_enter Try.func129, Try.ntmps129
        go_wp2_with fail
        go_ret
        exact ⟨ret_int (by simp [ordV, D.out.1]), K.out⟩
  have c2 : (k == 2) = false := by simpa using h2k
  by_cases h3k : k = 3
  · subst h3k
    have c3 : ((3 : Int) == 3) = true := rfl
    cases t <;> cases t'
    all_goals
      go_enter Try.func129, Try.ntmps129
      go_wp2_with fail
      go_ret
      exact ⟨ret_int (by simp [ordV]), K.out⟩
  have c3 : (k == 3) = false := by simpa using h3k
  have HK := Lib.hid (And.intro h1k (And.intro h2k h3k))
  clear h1k h2k h3k
  go_enter Try.func129, Try.ntmps129
  go_wp2_with fail
  go_ret
  exact ⟨ret_int (by simp [ordV, HK.out.1, HK.out.2.1, HK.out.2.2]), K.out⟩

/-- the order of values, in all that they have -/
def wholeV (a b : Val) : Int :=
  if ordV a b ≠ 0 then ordV a b
  else if ordV ⟨1, a.num, ⟨#[]⟩, false⟩ ⟨1, b.num, ⟨#[]⟩, false⟩ ≠ 0 then ordV ⟨1, a.num, ⟨#[]⟩, false⟩ ⟨1, b.num, ⟨#[]⟩, false⟩
  else if ordV ⟨2, 0, a.str, false⟩ ⟨2, 0, b.str, false⟩ ≠ 0 then ordV ⟨2, 0, a.str, false⟩ ⟨2, 0, b.str, false⟩
  else ordV ⟨3, 0, ⟨#[]⟩, a.is⟩ ⟨3, 0, ⟨#[]⟩, b.is⟩
theorem wholeV_zero (a b : Val) : wholeV a b = 0 ↔ a = b := by
  have h1 := ordV_zero a b
  have h2 := ordV_zero ⟨1, a.num, ⟨#[]⟩, false⟩ ⟨1, b.num, ⟨#[]⟩, false⟩
  have h3 := ordV_zero ⟨2, 0, a.str, false⟩ ⟨2, 0, b.str, false⟩
  have h4 := ordV_zero ⟨3, 0, ⟨#[]⟩, a.is⟩ ⟨3, 0, ⟨#[]⟩, b.is⟩
  rw [likeV_num] at h2
  rw [likeV_str] at h3
  rw [likeV_is] at h4
  obtain ⟨k, n, s, t⟩ := a
  obtain ⟨k', n', s', t'⟩ := b
  unfold wholeV
  simp only at h1 h2 h3 h4 ⊢
  constructor
  · intro h
    split at h
    · contradiction
    · rename_i g1
      split at h
      · contradiction
      · rename_i g2
        split at h
        · contradiction
        · rename_i g3
          have e1 := (h1.1 (Decidable.not_not.1 g1)).1
          simp only at e1
          rw [e1, h2.1 (Decidable.not_not.1 g2), h3.1 (Decidable.not_not.1 g3), h4.1 h]
  · intro h
    simp only [Val.mk.injEq] at h
    obtain ⟨rfl, rfl, rfl, rfl⟩ := h
    rw [if_neg (by simp [h1, likeV]), if_neg (by simp [h2]), if_neg (by simp [h3])]
    exact h4.2 rfl
set_option maxRecDepth 100000 in
theorem ref_whole_any (a b : Val) (w : World) : Calls Try.prog 120 #[.agg a.cells, .agg b.cells] w fun e w' => e = .returned (.int .i64 (wholeV a b)) ∧ Old w w' := by
  obtain ⟨W0, hW0⟩ : ∃ W0, (w.alloc (.cells a.cells 78)).alloc (.cells b.cells 78) = W0 := ⟨_, rfl⟩
  have k0 : Old w W0 := by rw [← hW0]; exact ((Keeps.refl _ _).alloc _).alloc _
  obtain ⟨b0, b1⟩ := two_blocks w (.cells a.cells 78) (.cells b.cells 78)
  rw [hW0] at b0 b1
  have B := Lib.hid (And.intro k0 (And.intro b0 b1))
  have hv : wholeV a b = if ordV a b ≠ 0 then ordV a b
    else if ordV ⟨1, a.num, ⟨#[]⟩, false⟩ ⟨1, b.num, ⟨#[]⟩, false⟩ ≠ 0 then ordV ⟨1, a.num, ⟨#[]⟩, false⟩ ⟨1, b.num, ⟨#[]⟩, false⟩
    else if ordV ⟨2, 0, a.str, false⟩ ⟨2, 0, b.str, false⟩ ≠ 0 then ordV ⟨2, 0, a.str, false⟩ ⟨2, 0, b.str, false⟩
    else ordV ⟨3, 0, ⟨#[]⟩, a.is⟩ ⟨3, 0, ⟨#[]⟩, b.is⟩ := rfl
  generalize wholeV a b = z at hv ⊢
  have C1 := (ref_cmp_val_any a b)
  have C2 := (ref_cmp_val_any ⟨1, a.num, ⟨#[]⟩, false⟩ ⟨1, b.num, ⟨#[]⟩, false⟩)
  have C3 := (ref_cmp_val_any ⟨2, 0, a.str, false⟩ ⟨2, 0, b.str, false⟩)
  have C4 := (ref_cmp_val_any ⟨3, 0, ⟨#[]⟩, a.is⟩ ⟨3, 0, ⟨#[]⟩, b.is⟩)
  generalize ordV a b = z1 at hv C1
  generalize ordV ⟨1, a.num, ⟨#[]⟩, false⟩ ⟨1, b.num, ⟨#[]⟩, false⟩ = z2 at hv C2
  generalize ordV ⟨2, 0, a.str, false⟩ ⟨2, 0, b.str, false⟩ = z3 at hv C3
  generalize ordV ⟨3, 0, ⟨#[]⟩, a.is⟩ ⟨3, 0, ⟨#[]⟩, b.is⟩ = z4 at hv C4
  have H1 := Lib.hid C1
  have H2 := Lib.hid C2
  have H3 := Lib.hid C3
  have H4 := Lib.hid C4
  clear C1 C2 C3 C4
  obtain ⟨k, n, s, t⟩ := a
  obtain ⟨k', n', s', t'⟩ := b
  unfold Val.cells at hW0 B H1 H2 H3 H4 ⊢
  simp only at hW0 B H1 H2 H3 H4 ⊢
  have g0 := blk4 B.out.2.1
  have g1 := blk4 B.out.2.2
  clear k0 b0 b1
  have HV := Lib.hid hv
  clear hv
  go_enter Try.func120, Try.ntmps120
  go_wp2_with fail
  refine (H1.out _).mono ?_
  rintro e w1 ⟨rfl, k1⟩
  clear g0 g1
  have g0 := blk4 ((k1.block _ (lt_of_heap B.out.2.1) (fun f => f)).trans B.out.2.1)
  have g1 := blk4 ((k1.block _ (lt_of_heap B.out.2.2) (fun f => f)).trans B.out.2.2)
  have R1 := Lib.hid k1
  clear k1
  by_cases hz : z1 = 0
  case neg =>
    have hb : (z1 != 0) = true := by rw [bne_iff_ne]; exact hz
    have hv := HV.out
    rw [if_pos hz] at hv
    have R := Lib.hid hv
    clear hz hv
    go_wp2_with fail
    go_ret
    exact ⟨ret_int R.out.symm, B.out.1.trans R1.out⟩
  subst hz
  have hb : ((0 : Int) != 0) = false := rfl
  go_wp2_with fail
  refine (H2.out _).mono ?_
  rintro e w2 ⟨rfl, k2⟩
  clear g0 g1
  have R2 := Lib.hid (R1.out.trans k2)
  have g0 := blk4 ((R2.out.block _ (lt_of_heap B.out.2.1) (fun f => f)).trans B.out.2.1)
  have g1 := blk4 ((R2.out.block _ (lt_of_heap B.out.2.2) (fun f => f)).trans B.out.2.2)
  clear k2
  by_cases hz : z2 = 0
  case neg =>
    have hb : (z2 != 0) = true := by rw [bne_iff_ne]; exact hz
    have hv := HV.out
    rw [if_neg (by simp), if_pos hz] at hv
    have R := Lib.hid hv
    clear hz hv
    go_wp2_with fail
    go_ret
    exact ⟨ret_int R.out.symm, B.out.1.trans R2.out⟩
  subst hz
  go_wp2_with fail
  refine (H3.out _).mono ?_
  rintro e w3 ⟨rfl, k3⟩
  clear g0 g1
  have R3 := Lib.hid (R2.out.trans k3)
  have g0 := blk4 ((R3.out.block _ (lt_of_heap B.out.2.1) (fun f => f)).trans B.out.2.1)
  have g1 := blk4 ((R3.out.block _ (lt_of_heap B.out.2.2) (fun f => f)).trans B.out.2.2)
  clear k3
  by_cases hz : z3 = 0
  case neg =>
    have hb : (z3 != 0) = true := by rw [bne_iff_ne]; exact hz
    have hv := HV.out
    rw [if_neg (by simp), if_neg (by simp), if_pos hz] at hv
    have R := Lib.hid hv
    clear hz hv
    go_wp2_with fail
    go_ret
    exact ⟨ret_int R.out.symm, B.out.1.trans R3.out⟩
  subst hz
  go_wp2_with fail
  refine (H4.out _).mono ?_
  rintro e w4 ⟨rfl, k4⟩
  have R4 := Lib.hid (R3.out.trans k4)
  have hv := HV.out
  rw [if_neg (by simp), if_neg (by simp), if_neg (by simp)] at hv
  have R := Lib.hid hv
  clear k4 g0 g1 hv
  go_wp2_with fail
  go_ret
  exact ⟨ret_int R.out.symm, B.out.1.trans R4.out⟩
end Go.Proofs.Ytlpbbcjmmhabfaa
