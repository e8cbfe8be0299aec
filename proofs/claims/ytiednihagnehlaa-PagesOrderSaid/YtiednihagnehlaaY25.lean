/- DERIVED. How arguments read: rows of structs; values, named values, events, items, policies. · DERIVED. How a message among the arguments reads. · DERIVED. Chapter 25: how lists of tokens, of bools, of calls among the arguments read. · DERIVED. Chapter 21, the document's writer: a number, a text. -/
import Derived.Test.YtiednihagnehlaaRows
import Derived.Test.YtiednihagnehlaaY07
import Derived.Test.YtiednihagnehlaaY08
import Derived.Test.YtiednihagnehlaaY06
import Derived.Test.YtiednihagnehlaaY24
import Derived.ProofKit
import Derived.OpenShut
import Derived.Deep.Slices
import Derived.Deep.Fields
import Derived.Test.YtiednihagnehlaaY16
import Derived.Test.YtiednihagnehlaaY19
import Derived.Test.YtiednihagnehlaaY18
namespace Go.Proofs.Ytiednihagnehlaa
open Go.ChangeShapes Go.WideShapes Go.ChangeAt Go.RowKit Go.Deep

section
variable {H : Type} {enc : TypeId × Value → H} {W : World}
abbrev Trd (enc : TypeId × Value → H) (W : World) (fuel : Nat) (t : TypeId) (cs : List Value) (x : DataW H × List MemPlace) : Prop := DataW.trod enc Try.prog W 0 (fun _ => true) true fuel t cs = some x

/-- a slice of rows among what came in -/
theorem trod_rows_b {α : Type} [Inhabited α] (dec : α → List Value) (k : Nat) (e t : TypeId) (ht : Try.prog.underlying t = some (.slice e)) (hC : Try.prog.cellsOf e = k) (hk : 0 < k) (Q : α → Prop)
  (hd : ∀ n cs x, Trd enc W n e cs x → ∃ a, cs = dec a ∧ Q a) {fuel : Nat} {cs : List Value} {x : DataW H × List MemPlace} (h : Trd enc W fuel t cs x) :
  ∃ v l, cs = [v] ∧ SeesR W k dec v l ∧ (∀ a ∈ l, Q a) ∧ (0 < l.length → ∀ b, v.ownBlock = some b → b < W.heap.size) ∧ l.length < Rows.uptoBulk x.1 := by
 rcases open_slice ht h with ⟨hcs, hx⟩ | ⟨a, len, cap, m, n, D, Pl, hcs, _, hl, hm, hmm, hx, hi⟩
 ·exact ⟨_, [], hcs, SeesR.nil W, (fun a ha => by cases ha), (fun h => by simp at h), one_le_bulk x.1⟩
 ·simp only [if_true] at hmm
  subst hmm
  rw [hC] at hi
  have hi' : ∀ i, i < m → ∃ y : α, (∀ j u, (dec y)[j]? = some u → W.cell? (a.add (i * k + j)) = some u) ∧ (dec y).length = k ∧ Q y := by
   intro i hlt
   obtain ⟨cs', hc, ht'⟩ := hi i hlt
   obtain ⟨y, rfl, hq⟩ := hd _ _ _ ht'
   obtain ⟨_, hcl, hat⟩ := World.cells?_some hc
   refine ⟨y, fun j u hu => ?_, hcl, hq⟩
   have hj : j < k := by rw [← hcl]; exact (List.getElem?_eq_some_iff.1 hu).1
   rw [← Go.Deep.add_add, hat j hj, hu]
  obtain ⟨f, hf⟩ := choose_lt hi'
  refine ⟨_, (List.range len).map f, hcs, ⟨some a, m, by simp, by simpa using hl, hm, fun h => (by cases h), fun a' ha => ?_⟩, ?_, ?_, ?_⟩
  ·cases ha
   refine ⟨fun hc => ?_, fun j y hj i u hu => ?_⟩
   ·obtain ⟨h1, h2, _⟩ := hf 0 hc
    have h0 : (dec (f 0))[0]? = some ((dec (f 0))[0]'(by omega)) := List.getElem?_eq_getElem _
    have := h1 0 _ h0
    have hs := World.cell?_spot this
    simpa [Addr.add] using hs
   ·have hjl : j < len := by have := (List.getElem?_eq_some_iff.1 hj).1; simpa using this
    have : y = f j := by simp [hjl] at hj; exact hj.symm
    subst this
    exact (hf j (by omega)).1 i u hu
  ·intro y hy
   obtain ⟨j, hj, rfl⟩ := List.mem_map.1 hy
   exact (hf j (by have := List.mem_range.1 hj; omega)).2.2
  ·intro h0 b hb
   have hlen : 0 < len := by simpa using h0
   obtain ⟨h1, h2, _⟩ := hf 0 (by omega)
   have h0' : (dec (f 0))[0]? = some ((dec (f 0))[0]'(by omega)) := List.getElem?_eq_getElem _
   have hc := World.block_lt_of_cell? _ _ (h1 0 _ h0')
   simp [Value.ownBlock] at hb
   subst hb
   rwa [block_add] at hc
  ·subst hx
   have h1 := elems_bulk ((List.range len).map D) ((List.range (m - len)).map fun j => D (len + j))
   have h2 := length_bulk ((List.range len).map D)
   simp only [List.length_map, List.length_range] at h2 ⊢
   omega

theorem trod_rows {α : Type} [Inhabited α] (dec : α → List Value) (k : Nat) (e t : TypeId) (ht : Try.prog.underlying t = some (.slice e)) (hC : Try.prog.cellsOf e = k) (hk : 0 < k) (Q : α → Prop)
  (hd : ∀ n cs x, Trd enc W n e cs x → ∃ a, cs = dec a ∧ Q a) {fuel : Nat} {cs : List Value} {x : DataW H × List MemPlace} (h : Trd enc W fuel t cs x) :
  ∃ v l, cs = [v] ∧ SeesR W k dec v l ∧ (∀ a ∈ l, Q a) ∧ (0 < l.length → ∀ b, v.ownBlock = some b → b < W.heap.size) := by
 obtain ⟨v, l, h1, h2, h3, h4, _⟩ := trod_rows_b dec k e t ht hC hk Q hd h
 exact ⟨v, l, h1, h2, h3, h4⟩

/-- an int64, an int -/
theorem i64_range {z : Int} (h : (Lit.int .i64 z).wf = true) : -9223372036854775808 ≤ z ∧ z ≤ 9223372036854775807 := by
 simpa [Lit.wf, IntKind.min, IntKind.max, IntKind.signed, IntKind.bits] using h
theorem u64_range {z : Int} (h : (Lit.int .u64 z).wf = true) : 0 ≤ z ∧ z ≤ 18446744073709551615 := by
 simpa [Lit.wf, IntKind.min, IntKind.max, IntKind.signed, IntKind.bits] using h

theorem cells_value : Try.prog.cellsOf 66 = 4 := by kernel_rfl
theorem cells_int : Try.prog.cellsOf 3 = 1 := by kernel_rfl
theorem cells_i64 : Try.prog.cellsOf 2 = 1 := by kernel_rfl
theorem cells_u64 : Try.prog.cellsOf 28 = 1 := by kernel_rfl
theorem cells_string : Try.prog.cellsOf 9 = 1 := by kernel_rfl
theorem cells_bool : Try.prog.cellsOf 4 = 1 := by kernel_rfl
theorem cells_attr : Try.prog.cellsOf 126 = 5 := by kernel_rfl
theorem cells_attrs : Try.prog.cellsOf 31 = 1 := by kernel_rfl
theorem cells_event : Try.prog.cellsOf 33 = 2 := by kernel_rfl
theorem cells_item : Try.prog.cellsOf 35 = 4 := by kernel_rfl

theorem field_at {fs : Array Field} {xs : List (DataW H × List MemPlace)} {n : Nat} {cs : List Value}
  (hf : ∀ (i : Nat) (f : Field), fs[i]? = some f → DataW.trod enc Try.prog W 0 (fun _ => true) true n f.type ((cs.drop f.offset).take (Try.prog.cellsOf f.type)) = xs[i]?) (hl : xs.length = fs.size)
  (i : Nat) (t : TypeId) (off k : Nat) (f : Field) (h : fs[i]? = some f) (ht : f.type = t) (ho : f.offset = off) (hk : Try.prog.cellsOf t = k) : ∃ y, Trd enc W n t ((cs.drop off).take k) y := by
 subst ht ho hk
 have h1 := hf i f h
 have hi : i < xs.length := by rw [hl]; exact (Array.getElem?_eq_some_iff.1 h).1
 exact ⟨xs[i], h1.trans (List.getElem?_eq_getElem hi)⟩

set_option maxRecDepth 100000 in
theorem trod_value {n : Nat} {cs : List Value} {x : DataW H × List MemPlace} (h : Trd enc W n 66 cs x) :
  ∃ v : Val, cs = [.int .i64 v.kind, .int .i64 v.num, .string v.str, .bool v.is] ∧ (-9223372036854775808 ≤ v.num ∧ v.num ≤ 9223372036854775807) ∧ (-9223372036854775808 ≤ v.kind ∧ v.kind ≤ 9223372036854775807) ∧ v.str.size ≤ maxLen := by
 obtain ⟨xs, n', _, _, hlen, hl, hf⟩ := DataW.trod_struct Try.underlying66 h
 rw [cells_value] at hlen
 match cs, hlen with
 | [c0, c1, c2, c3], _ =>
  obtain ⟨y0, g0⟩ := field_at hf hl 0 3 0 1 _ rfl rfl rfl cells_int
  obtain ⟨y1, g1⟩ := field_at hf hl 1 2 1 1 _ rfl rfl rfl cells_i64
  obtain ⟨y2, g2⟩ := field_at hf hl 2 9 2 1 _ rfl rfl rfl cells_string
  obtain ⟨y3, g3⟩ := field_at hf hl 3 4 3 1 _ rfl rfl rfl cells_bool
  obtain ⟨z0, e0, _, w0⟩ := DataW.trod_int Try.underlying3 g0
  obtain ⟨z1, e1, _, w1⟩ := DataW.trod_int Try.underlying2 g1
  obtain ⟨z2, e2, _, w2⟩ := DataW.trod_string Try.underlying9 g2
  obtain ⟨z3, e3, _⟩ := DataW.trod_bool Try.underlying4 g3
  simp only [List.drop_zero, List.drop_succ_cons, List.take_succ_cons, List.take_zero, List.cons.injEq, and_true] at e0 e1 e2 e3
  subst e0 e1 e2 e3
  exact ⟨⟨z0, z1, z2, z3⟩, rfl, i64_range w1, i64_range w0, w2⟩

instance : Inhabited At := ⟨⟨⟨#[]⟩, ⟨0, 0, ⟨#[]⟩, false⟩⟩⟩
set_option maxRecDepth 100000 in
theorem trod_attr {n : Nat} {cs : List Value} {x : DataW H × List MemPlace} (h : Trd enc W n 126 cs x) :
  ∃ a : At, cs = a.cells ∧ (a.name.size ≤ 9223372036854775807 ∧ -9223372036854775808 ≤ a.val.num ∧ a.val.num ≤ 9223372036854775807) := by
 obtain ⟨xs, n', _, _, hlen, hl, hf⟩ := DataW.trod_struct Try.underlying126 h
 rw [cells_attr] at hlen
 match cs, hlen with
 | [c0, c1, c2, c3, c4], _ =>
  obtain ⟨y0, g0⟩ := field_at hf hl 0 9 0 1 _ rfl rfl rfl cells_string
  obtain ⟨y1, g1⟩ := field_at hf hl 1 66 1 4 _ rfl rfl rfl cells_value
  obtain ⟨z0, e0, _, w0⟩ := DataW.trod_string Try.underlying9 g0
  obtain ⟨v, e1, hv, _⟩ := trod_value g1
  simp only [List.drop_zero, List.drop_succ_cons, List.take_succ_cons, List.take_zero, List.cons.injEq, and_true] at e0 e1
  obtain ⟨rfl, rfl, rfl, rfl⟩ := e1
  subst e0
  exact ⟨⟨z0, v⟩, rfl, by unfold maxLen at w0; exact w0, hv⟩
theorem trod_attrs {n : Nat} {cs : List Value} {x : DataW H × List MemPlace} (h : Trd enc W n 31 cs x) :
  ∃ v l, cs = [v] ∧ SeesA W v l ∧ Fits l ∧ (0 < l.length → ∀ b, v.ownBlock = some b → b < W.heap.size) := by
 obtain ⟨v, l, h1, h2, h3, h4⟩ := trod_rows At.cells 5 126 31 Try.underlying31 cells_attr (by decide) _ (fun n cs x hh => trod_attr hh) h
 exact ⟨v, l, h1, h2, h3, h4⟩
set_option maxRecDepth 100000 in
theorem trod_event {n : Nat} {cs : List Value} {x : DataW H × List MemPlace} (h : Trd enc W n 33 cs x) :
  ∃ (key : ByteArray) (v : Value) (l : List At), cs = [.string key, v] ∧ SeesA W v l ∧ Fits l ∧ (0 < l.length → ∀ b, v.ownBlock = some b → b < W.heap.size) ∧ key.size ≤ maxLen := by
 obtain ⟨xs, n', _, _, hlen, hl, hf⟩ := DataW.trod_struct Try.underlying33 h
 rw [cells_event] at hlen
 match cs, hlen with
 | [c0, c1], _ =>
  obtain ⟨y0, g0⟩ := field_at hf hl 0 9 0 1 _ rfl rfl rfl cells_string
  obtain ⟨y1, g1⟩ := field_at hf hl 1 31 1 1 _ rfl rfl rfl cells_attrs
  obtain ⟨z0, e0, _, w0⟩ := DataW.trod_string Try.underlying9 g0
  obtain ⟨v, l, e1, h1, h2, h3⟩ := trod_attrs g1
  simp only [List.drop_zero, List.drop_succ_cons, List.take_succ_cons, List.take_zero, List.cons.injEq, and_true] at e0 e1
  subst e0 e1
  exact ⟨z0, _, l, rfl, h1, h2, h3, w0⟩
def Items (w : World) (lv : Value) (l : List It) : Prop := SeesR w 4 It.cells lv l ∧ ∀ x ∈ l, x.fine w
instance : Inhabited It := ⟨⟨0, 0, ⟨#[]⟩, .slice none 0 0, []⟩⟩
set_option maxRecDepth 100000 in
theorem trod_item {n : Nat} {cs : List Value} {x : DataW H × List MemPlace} (h : Trd enc W n 35 cs x) :
  ∃ a : It, cs = a.cells ∧ a.fine W := by
 obtain ⟨xs, n', _, _, hlen, hl, hf⟩ := DataW.trod_struct Try.underlying35 h
 rw [cells_item] at hlen
 match cs, hlen with
 | [c0, c1, c2, c3], _ =>
  obtain ⟨y0, g0⟩ := field_at hf hl 0 28 0 1 _ rfl rfl rfl cells_u64
  obtain ⟨y1, g1⟩ := field_at hf hl 1 28 1 1 _ rfl rfl rfl cells_u64
  obtain ⟨y2, g2⟩ := field_at hf hl 2 33 2 2 _ rfl rfl rfl cells_event
  obtain ⟨z0, e0, _, w0⟩ := DataW.trod_int Try.underlying28 g0
  obtain ⟨z1, e1, _, w1⟩ := DataW.trod_int Try.underlying28 g1
  obtain ⟨key, v, l, e2, h1, h2, h3, _⟩ := trod_event g2
  simp only [List.drop_zero, List.drop_succ_cons, List.take_succ_cons, List.take_zero, List.cons.injEq, and_true] at e0 e1 e2
  obtain ⟨rfl, rfl⟩ := e2
  subst e0 e1
  have r0 := u64_range w0
  have r1 := u64_range w1
  obtain ⟨a, rfl⟩ := Int.eq_ofNat_of_zero_le r0.1
  obtain ⟨b, rfl⟩ := Int.eq_ofNat_of_zero_le r1.1
  exact ⟨⟨a, b, key, _, l⟩, rfl, h1, h3, h2, by show a < _; omega, by show b < _; omega⟩
set_option maxRecDepth 100000 in
theorem trod_items {n : Nat} {cs : List Value} {x : DataW H × List MemPlace} (h : Trd enc W n 38 cs x) : ∃ v l, cs = [v] ∧ Items W v l := by
 obtain ⟨v, l, h1, h2, h3, _⟩ := trod_rows It.cells 4 35 38 Try.underlying38 cells_item (by decide) _ (fun n cs x hh => trod_item hh) h
 exact ⟨v, l, h1, h2, h3⟩
set_option maxRecDepth 100000 in
theorem read_items {base : Nat} {v : Value} {d : DataW H} {p : List MemPlace} (hv : Value.okWide Try.prog W .any base 38 v) (h : DataW.Trod enc Try.prog W 0 (fun _ => true) true 38 v d p) : ∃ l, Items W v l := by
 obtain ⟨a, len, cap, rfl⟩ := okWide_slice Try.underlying38 hv
 obtain ⟨fuel, hf⟩ := h
 obtain ⟨v, l, hc, hs⟩ := trod_items hf
 simp only [Value.cells, List.cons.injEq, and_true] at hc
 subst hc
 exact ⟨l, hs⟩
set_option maxRecDepth 100000 in
theorem read_item {base : Nat} {v : Value} {d : DataW H} {p : List MemPlace} (hv : Value.okWide Try.prog W .any base 35 v) (h : DataW.Trod enc Try.prog W 0 (fun _ => true) true 35 v d p) : ∃ x : It, v = .agg x.cells.toArray ∧ x.fine W := by
 obtain ⟨cs, rfl, hsz⟩ := okWide_struct Try.underlying35 hv
 obtain ⟨fuel, hf⟩ := h
 obtain ⟨x, hc, hx⟩ := trod_item hf
 refine ⟨x, ?_, hx⟩
 simp only [Value.cells] at hc
 rw [← hc]
theorem cells_con : Try.prog.cellsOf 69 = 7 := by kernel_rfl
theorem cells_vals : Try.prog.cellsOf 67 = 1 := by kernel_rfl
theorem cells_gap : Try.prog.cellsOf 116 = 2 := by kernel_rfl
theorem cells_page : Try.prog.cellsOf 41 = 5 := by kernel_rfl
theorem cells_items : Try.prog.cellsOf 38 = 1 := by kernel_rfl
theorem cells_gaps : Try.prog.cellsOf 39 = 1 := by kernel_rfl
instance : Inhabited Val := ⟨⟨0, 0, ⟨#[]⟩, false⟩⟩
instance : Inhabited Con := ⟨⟨⟨#[]⟩, 0, ⟨0, 0, ⟨#[]⟩, false⟩, .slice none 0 0, []⟩⟩
theorem trod_vals {n : Nat} {cs : List Value} {x : DataW H × List MemPlace} (h : Trd enc W n 67 cs x) :
  ∃ v l, cs = [v] ∧ SeesV W v l ∧ (∀ v ∈ l, -9223372036854775808 ≤ v.num ∧ v.num ≤ 9223372036854775807) ∧ (0 < l.length → ∀ b, v.ownBlock = some b → b < W.heap.size) := by
 obtain ⟨v, l, h1, h2, h3, h4⟩ := trod_rows valL 4 66 67 Try.underlying67 cells_value (by decide) (fun v => -9223372036854775808 ≤ v.num ∧ v.num ≤ 9223372036854775807) (fun n cs x hh => by
  obtain ⟨v, e, g, _⟩ := trod_value hh
  exact ⟨v, e, g⟩) h
 exact ⟨v, l, h1, h2, h3, h4⟩
set_option maxRecDepth 100000 in
theorem trod_con {n : Nat} {cs : List Value} {x : DataW H × List MemPlace} (h : Trd enc W n 69 cs x) :
  ∃ a : Con, cs = a.cells ∧ a.fine W := by
 obtain ⟨xs, n', _, _, hlen, hl, hf⟩ := DataW.trod_struct Try.underlying69 h
 rw [cells_con] at hlen
 match cs, hlen with
 | [c0, c1, c2, c3, c4, c5, c6], _ =>
  obtain ⟨y0, g0⟩ := field_at hf hl 0 9 0 1 _ rfl rfl rfl cells_string
  obtain ⟨y1, g1⟩ := field_at hf hl 1 3 1 1 _ rfl rfl rfl cells_int
  obtain ⟨y2, g2⟩ := field_at hf hl 2 66 2 4 _ rfl rfl rfl cells_value
  obtain ⟨y3, g3⟩ := field_at hf hl 3 67 6 1 _ rfl rfl rfl cells_vals
  obtain ⟨z0, e0, _, w0⟩ := DataW.trod_string Try.underlying9 g0
  obtain ⟨z1, e1, _, w1⟩ := DataW.trod_int Try.underlying3 g1
  obtain ⟨v, e2, hv, _⟩ := trod_value g2
  obtain ⟨sv, l, e3, h1, h2, h3⟩ := trod_vals g3
  simp only [List.drop_zero, List.drop_succ_cons, List.take_succ_cons, List.take_zero, List.cons.injEq, and_true] at e0 e1 e2 e3
  obtain ⟨rfl, rfl, rfl, rfl⟩ := e2
  subst e0 e1 e3
  exact ⟨⟨z0, z1, v, _, l⟩, rfl, h1, ⟨by unfold maxLen at w0; exact w0, hv⟩, h2, h3⟩
theorem trod_pred {n : Nat} {cs : List Value} {x : DataW H × List MemPlace} (h : Trd enc W n 30 cs x) :
  ∃ v l, cs = [v] ∧ Cons W v l ∧ (0 < l.length → ∀ b, v.ownBlock = some b → b < W.heap.size) := by
 obtain ⟨v, l, h1, h2, h3, h4⟩ := trod_rows Con.cells 7 69 30 Try.underlying30 cells_con (by decide) (fun c => c.fine W) (fun n cs x hh => trod_con hh) h
 exact ⟨v, l, h1, ⟨h2, h3⟩, h4⟩
set_option maxRecDepth 100000 in
theorem trod_gap {n : Nat} {cs : List Value} {x : DataW H × List MemPlace} (h : Trd enc W n 116 cs x) :
  ∃ g : PGap, cs = gapL g ∧ (g.1 < 18446744073709551616 ∧ g.2 < 18446744073709551616) := by
 obtain ⟨xs, n', _, _, hlen, hl, hf⟩ := DataW.trod_struct Try.underlying116 h
 rw [cells_gap] at hlen
 match cs, hlen with
 | [c0, c1], _ =>
  obtain ⟨y0, g0⟩ := field_at hf hl 0 28 0 1 _ rfl rfl rfl cells_u64
  obtain ⟨y1, g1⟩ := field_at hf hl 1 28 1 1 _ rfl rfl rfl cells_u64
  obtain ⟨z0, e0, _, w0⟩ := DataW.trod_int Try.underlying28 g0
  obtain ⟨z1, e1, _, w1⟩ := DataW.trod_int Try.underlying28 g1
  simp only [List.drop_zero, List.drop_succ_cons, List.take_succ_cons, List.take_zero, List.cons.injEq, and_true] at e0 e1
  subst e0 e1
  have r0 := u64_range w0
  have r1 := u64_range w1
  obtain ⟨a, rfl⟩ := Int.eq_ofNat_of_zero_le r0.1
  obtain ⟨b, rfl⟩ := Int.eq_ofNat_of_zero_le r1.1
  exact ⟨(a, b), rfl, by show a < _; omega, by show b < _; omega⟩
theorem field_at_mem {fs : Array Field} {xs : List (DataW H × List MemPlace)} {n : Nat} {cs : List Value}
  (hf : ∀ (i : Nat) (f : Field), fs[i]? = some f → DataW.trod enc Try.prog W 0 (fun _ => true) true n f.type ((cs.drop f.offset).take (Try.prog.cellsOf f.type)) = xs[i]?) (hl : xs.length = fs.size)
  (i : Nat) (t : TypeId) (off k : Nat) (f : Field) (h : fs[i]? = some f) (ht : f.type = t) (ho : f.offset = off) (hk : Try.prog.cellsOf t = k) : ∃ y, Trd enc W n t ((cs.drop off).take k) y ∧ y ∈ xs := by
 subst ht ho hk
 have h1 := hf i f h
 have hi : i < xs.length := by rw [hl]; exact (Array.getElem?_eq_some_iff.1 h).1
 exact ⟨xs[i], h1.trans (List.getElem?_eq_getElem hi), List.getElem_mem hi⟩
theorem part_bulk_agg {y : DataW H × List MemPlace} {xs : List (DataW H × List MemPlace)} (h : y ∈ xs) : Rows.uptoBulk y.1 ≤ Rows.uptoBulk (.agg (xs.map (·.1))) := by
 have h1 := part_bulk (d := y.1) (l := xs.map (·.1)) (List.mem_map_of_mem h)
 simp only [Rows.uptoBulk]
 omega
set_option maxRecDepth 100000 in
theorem trod_page {n : Nat} {cs : List Value} {x : DataW H × List MemPlace} (h : Trd enc W n 41 cs x) :
  ∃ a : Pg, cs = a.cells ∧ a.fine W ∧ a.its.length < Rows.uptoBulk x.1 := by
 obtain ⟨xs, n', _, rfl, hlen, hl, hf⟩ := DataW.trod_struct Try.underlying41 h
 rw [cells_page] at hlen
 match cs, hlen with
 | [c0, c1, c2, c3, c4], _ =>
  obtain ⟨y0, g0⟩ := field_at hf hl 0 28 0 1 _ rfl rfl rfl cells_u64
  obtain ⟨y1, g1⟩ := field_at hf hl 1 28 1 1 _ rfl rfl rfl cells_u64
  obtain ⟨y2, g2, hy2⟩ := field_at_mem hf hl 2 38 2 1 _ rfl rfl rfl cells_items
  obtain ⟨y3, g3⟩ := field_at hf hl 3 39 3 1 _ rfl rfl rfl cells_gaps
  obtain ⟨y4, g4⟩ := field_at hf hl 4 4 4 1 _ rfl rfl rfl cells_bool
  obtain ⟨z0, e0, _, w0⟩ := DataW.trod_int Try.underlying28 g0
  obtain ⟨z1, e1, _, w1⟩ := DataW.trod_int Try.underlying28 g1
  obtain ⟨iv, its, e2, i1, i2, i3, i4⟩ := trod_rows_b It.cells 4 35 38 Try.underlying38 cells_item (by decide) (fun x => x.fine W) (fun n cs x hh => trod_item hh) g2
  obtain ⟨gv, gs, e3, j1, j2, j3⟩ := trod_rows gapL 2 116 39 Try.underlying39 cells_gap (by decide) (fun g => g.1 < 18446744073709551616 ∧ g.2 < 18446744073709551616) (fun n cs x hh => trod_gap hh) g3
  obtain ⟨z4, e4, _⟩ := DataW.trod_bool Try.underlying4 g4
  simp only [List.drop_zero, List.drop_succ_cons, List.take_succ_cons, List.take_zero, List.cons.injEq, and_true] at e0 e1 e2 e3 e4
  subst e0 e1 e2 e3 e4
  have r0 := u64_range w0
  have r1 := u64_range w1
  obtain ⟨a, rfl⟩ := Int.eq_ofNat_of_zero_le r0.1
  obtain ⟨b, rfl⟩ := Int.eq_ofNat_of_zero_le r1.1
  exact ⟨⟨a, b, _, its, _, gs, z4⟩, rfl, ⟨⟨i1, i2, j1⟩, j2, ⟨by show a < _; omega, by show b < _; omega⟩, i3, j3⟩, Nat.lt_of_lt_of_le i4 (part_bulk_agg hy2)⟩
set_option maxRecDepth 100000 in
theorem read_event {base : Nat} {v : Value} {d : DataW H} {p : List MemPlace} (hv : Value.okWide Try.prog W .any base 33 v) (h : DataW.Trod enc Try.prog W 0 (fun _ => true) true 33 v d p) :
  ∃ (key : ByteArray) (a : Value) (l : List At), v = .agg #[.string key, a] ∧ SeesA W a l ∧ Fits l ∧ (0 < l.length → ∀ b, a.ownBlock = some b → b < W.heap.size) := by
 obtain ⟨cs, rfl, hsz⟩ := okWide_struct Try.underlying33 hv
 obtain ⟨fuel, hf⟩ := h
 obtain ⟨key, a, l, hc, h1, h2, h3, _⟩ := trod_event hf
 refine ⟨key, a, l, ?_, h1, h2, h3⟩
 simp only [Value.cells] at hc
 obtain ⟨cs⟩ := cs
 simp only at hc
 rw [hc]
set_option maxRecDepth 100000 in
theorem read_page {base : Nat} {v : Value} {d : DataW H} {p : List MemPlace} (hv : Value.okWide Try.prog W .any base 41 v) (h : DataW.Trod enc Try.prog W 0 (fun _ => true) true 41 v d p) : ∃ x : Pg, v = .agg x.cells.toArray ∧ x.fine W ∧ x.its.length < Rows.uptoBulk d := by
 obtain ⟨cs, rfl, hsz⟩ := okWide_struct Try.underlying41 hv
 obtain ⟨fuel, hf⟩ := h
 obtain ⟨x, hc, hx⟩ := trod_page hf
 refine ⟨x, ?_, hx⟩
 simp only [Value.cells] at hc
 rw [← hc]
set_option maxRecDepth 100000 in
theorem read_pred {base : Nat} {v : Value} {d : DataW H} {p : List MemPlace} (hv : Value.okWide Try.prog W .any base 30 v) (h : DataW.Trod enc Try.prog W 0 (fun _ => true) true 30 v d p) :
  ∃ l, Cons W v l ∧ (0 < l.length → ∀ b, v.ownBlock = some b → b < W.heap.size) := by
 obtain ⟨a, len, cap, rfl⟩ := okWide_slice Try.underlying30 hv
 obtain ⟨fuel, hf⟩ := h
 obtain ⟨v, l, hc, h1, h2⟩ := trod_pred hf
 simp only [Value.cells, List.cons.injEq, and_true] at hc
 subst hc
 exact ⟨l, h1, h2⟩
set_option maxRecDepth 100000 in
theorem read_u64 {base : Nat} {v : Value} {d : DataW H} {p : List MemPlace} (hv : Value.okWide Try.prog W .any base 28 v) (h : DataW.Trod enc Try.prog W 0 (fun _ => true) true 28 v d p) : ∃ n : Nat, v = .int .u64 n ∧ n < 18446744073709551616 := by
 obtain ⟨z, rfl, rfl, rfl, wn⟩ := open_int Try.underlying28 hv h
 have hr := u64_range wn
 obtain ⟨m, rfl⟩ := Int.eq_ofNat_of_zero_le hr.1
 exact ⟨m, rfl, by omega⟩
end
end Go.Proofs.Ytiednihagnehlaa

namespace Go.Proofs.Ytiednihagnehlaa
open Go.ChangeShapes Go.WideShapes Go.ChangeAt Go.RowKit Go.Deep

section
variable {H : Type} {enc : TypeId × Value → H} {W : World}
theorem cells_rmsg : Try.prog.cellsOf 60 = 18 := by kernel_rfl
theorem cells_rtok : Try.prog.cellsOf 45 = 3 := by kernel_rfl
theorem cells_pred : Try.prog.cellsOf 30 = 1 := by kernel_rfl
set_option maxRecDepth 100000 in
theorem trod_rtok {n : Nat} {cs : List Value} {x : DataW H × List MemPlace} (h : Trd enc W n 45 cs x) :
  ∃ (a : Int) (b c : Nat), cs = [.int .i64 a, .int .u64 b, .int .u64 c] ∧ I64 a ∧ U64 b ∧ U64 c := by
 obtain ⟨xs, n', _, _, hlen, hl, hf⟩ := DataW.trod_struct Try.underlying45 h
 rw [cells_rtok] at hlen
 match cs, hlen with
 | [c0, c1, c2], _ =>
  obtain ⟨y0, g0⟩ := field_at hf hl 0 3 0 1 _ rfl rfl rfl cells_int
  obtain ⟨y1, g1⟩ := field_at hf hl 1 28 1 1 _ rfl rfl rfl cells_u64
  obtain ⟨y2, g2⟩ := field_at hf hl 2 28 2 1 _ rfl rfl rfl cells_u64
  obtain ⟨z0, e0, _, w0⟩ := DataW.trod_int Try.underlying3 g0
  obtain ⟨z1, e1, _, w1⟩ := DataW.trod_int Try.underlying28 g1
  obtain ⟨z2, e2, _, w2⟩ := DataW.trod_int Try.underlying28 g2
  simp only [List.drop_zero, List.drop_succ_cons, List.take_succ_cons, List.take_zero, List.cons.injEq, and_true] at e0 e1 e2
  subst e0 e1 e2
  have r1 := u64_range w1
  have r2 := u64_range w2
  obtain ⟨b, rfl⟩ := Int.eq_ofNat_of_zero_le r1.1
  obtain ⟨c, rfl⟩ := Int.eq_ofNat_of_zero_le r2.1
  exact ⟨z0, b, c, rfl, i64_range w0, by unfold U64; omega, by unfold U64; omega⟩
set_option maxRecDepth 100000 in
theorem trod_msg {n : Nat} {cs : List Value} {x : DataW H × List MemPlace} (h : Trd enc W n 60 cs x) :
  ∃ m : Ms, cs = m.cells ∧ m.fine W := by
 obtain ⟨xs, n', _, _, hlen, hl, hf⟩ := DataW.trod_struct Try.underlying60 h
 rw [cells_rmsg] at hlen
 match cs, hlen with
 | [c0, c1, c2, c3, c4, c5, c6, c7, c8, c9, c10, c11, c12, c13, c14, c15, c16, c17], _ =>
  obtain ⟨y0, g0⟩ := field_at hf hl 0 3 0 1 _ rfl rfl rfl cells_int
  obtain ⟨y1, g1⟩ := field_at hf hl 1 3 1 1 _ rfl rfl rfl cells_int
  obtain ⟨y2, g2⟩ := field_at hf hl 2 28 2 1 _ rfl rfl rfl cells_u64
  obtain ⟨y3, g3⟩ := field_at hf hl 3 4 3 1 _ rfl rfl rfl cells_bool
  obtain ⟨y4, g4⟩ := field_at hf hl 4 30 4 1 _ rfl rfl rfl cells_pred
  obtain ⟨y5, g5⟩ := field_at hf hl 5 35 5 4 _ rfl rfl rfl cells_item
  obtain ⟨y6, g6⟩ := field_at hf hl 6 45 9 3 _ rfl rfl rfl cells_rtok
  obtain ⟨y7, g7⟩ := field_at hf hl 7 28 12 1 _ rfl rfl rfl cells_u64
  obtain ⟨y8, g8⟩ := field_at hf hl 8 41 13 5 _ rfl rfl rfl cells_page
  obtain ⟨z0, e0, _, w0⟩ := DataW.trod_int Try.underlying3 g0
  obtain ⟨z1, e1, _, w1⟩ := DataW.trod_int Try.underlying3 g1
  obtain ⟨z2, e2, _, w2⟩ := DataW.trod_int Try.underlying28 g2
  obtain ⟨z3, e3, _⟩ := DataW.trod_bool Try.underlying4 g3
  obtain ⟨pv, ps, e4, p1, p2⟩ := trod_pred g4
  obtain ⟨it, e5, i1⟩ := trod_item g5
  obtain ⟨tb, tl, tc, e6, t1, t2, t3⟩ := trod_rtok g6
  obtain ⟨z7, e7, _, w7⟩ := DataW.trod_int Try.underlying28 g7
  obtain ⟨pg, e8, q1, _⟩ := trod_page g8
  simp only [List.drop_zero, List.drop_succ_cons, List.take_succ_cons, List.take_zero, List.cons.injEq, and_true, It.cells, Pg.cells] at e0 e1 e2 e3 e4 e5 e6 e7 e8
  have r2 := u64_range w2
  have r7 := u64_range w7
  obtain ⟨ver, rfl⟩ := Int.eq_ofNat_of_zero_le r2.1
  obtain ⟨frm, rfl⟩ := Int.eq_ofNat_of_zero_le r7.1
  obtain ⟨rfl, rfl, rfl, rfl⟩ := e5
  obtain ⟨rfl, rfl, rfl⟩ := e6
  obtain ⟨rfl, rfl, rfl, rfl, rfl⟩ := e8
  subst e0 e1 e2 e3 e4 e7
  exact ⟨⟨z0, z1, ver, z3, _, ps, it, tb, tl, tc, frm, pg⟩, rfl, ⟨p1, p2⟩, i1, q1, ⟨i64_range w0, i64_range w1, t1⟩, by show ver < _; omega, t2, t3, by show frm < _; omega⟩
set_option maxRecDepth 100000 in
theorem read_msg {base : Nat} {v : Value} {d : DataW H} {p : List MemPlace} (hv : Value.okWide Try.prog W .any base 60 v) (h : DataW.Trod enc Try.prog W 0 (fun _ => true) true 60 v d p) : ∃ x : Ms, v = .agg x.cells.toArray ∧ x.fine W := by
 obtain ⟨cs, rfl, hsz⟩ := okWide_struct Try.underlying60 hv
 obtain ⟨fuel, hf⟩ := h
 obtain ⟨x, hc, hx⟩ := trod_msg hf
 refine ⟨x, ?_, hx⟩
 simp only [Value.cells] at hc
 rw [← hc]
end
end Go.Proofs.Ytiednihagnehlaa

namespace Go.Proofs.Ytiednihagnehlaa
open Go.ChangeShapes Go.WideShapes Go.ChangeAt Go.RowKit Go.Deep

/-- a token -/
structure Tk where
 b : Int
 l : Nat
 c : Nat
def tokL (t : Tk) : List Value := [.int .i64 t.b, .int .u64 (t.l : Int), .int .u64 (t.c : Int)]
def boolL (b : Bool) : List Value := [.bool b]
/-- a call of the queue -/
structure Opq where
 what : Int
 link : Int
 m : Ms
def opL (x : Opq) : List Value := .int .i64 x.what :: .int .i64 x.link :: x.m.cells
instance : Inhabited Tk := ⟨⟨0, 0, 0⟩⟩
instance : Inhabited Opq := ⟨⟨0, 0, zeroMs⟩⟩
section
variable {H : Type} {enc : TypeId × Value → H} {W : World}
set_option maxRecDepth 100000 in
theorem read_toks {base : Nat} {v : Value} {d : DataW H} {p : List MemPlace} (hv : Value.okWide Try.prog W .any base 22 v) (h : DataW.Trod enc Try.prog W 0 (fun _ => true) true 22 v d p) :
  ∃ l : List Tk, SeesR W 3 tokL v l ∧ ∀ t ∈ l, I64 t.b ∧ U64 t.l ∧ U64 t.c := by
 obtain ⟨a, len, cap, rfl⟩ := okWide_slice Try.underlying22 hv
 obtain ⟨fuel, hf⟩ := h
 obtain ⟨v, l, hc, hs, hq, _⟩ := trod_rows tokL 3 45 22 Try.underlying22 cells_rtok (by decide) (fun t => I64 t.b ∧ U64 t.l ∧ U64 t.c) (fun n cs x hh => by
  obtain ⟨a, b, c, e, g1, g2, g3⟩ := trod_rtok hh
  exact ⟨⟨a, b, c⟩, e, g1, g2, g3⟩) hf
 simp only [Value.cells, List.cons.injEq, and_true] at hc
 subst hc
 exact ⟨l, hs, hq⟩
set_option maxRecDepth 100000 in
theorem read_bools {base : Nat} {v : Value} {d : DataW H} {p : List MemPlace} (hv : Value.okWide Try.prog W .any base 23 v) (h : DataW.Trod enc Try.prog W 0 (fun _ => true) true 23 v d p) :
  ∃ l : List Bool, SeesR W 1 boolL v l := by
 obtain ⟨a, len, cap, rfl⟩ := okWide_slice Try.underlying23 hv
 obtain ⟨fuel, hf⟩ := h
 obtain ⟨v, l, hc, hs, _⟩ := trod_rows boolL 1 4 23 Try.underlying23 cells_bool (by decide) (fun _ => True) (fun n cs x hh => by
  obtain ⟨b, e, _⟩ := DataW.trod_bool Try.underlying4 hh
  exact ⟨b, e, trivial⟩) hf
 simp only [Value.cells, List.cons.injEq, and_true] at hc
 subst hc
 exact ⟨l, hs⟩
theorem cells_op : Try.prog.cellsOf 62 = 20 := by kernel_rfl
set_option maxRecDepth 100000 in
theorem trod_op {n : Nat} {cs : List Value} {x : DataW H × List MemPlace} (h : Trd enc W n 62 cs x) :
  ∃ o : Opq, cs = opL o ∧ (I64 o.what ∧ I64 o.link) ∧ o.m.fine W := by
 obtain ⟨xs, n', _, _, hlen, hl, hf⟩ := DataW.trod_struct Try.underlying62 h
 rw [cells_op] at hlen
 match cs, hlen with
 | c0 :: c1 :: rest, hlen =>
  obtain ⟨y0, g0⟩ := field_at hf hl 0 3 0 1 _ rfl rfl rfl cells_int
  obtain ⟨y1, g1⟩ := field_at hf hl 1 3 1 1 _ rfl rfl rfl cells_int
  obtain ⟨y2, g2⟩ := field_at hf hl 2 60 2 18 _ rfl rfl rfl cells_rmsg
  obtain ⟨z0, e0, _, w0⟩ := DataW.trod_int Try.underlying3 g0
  obtain ⟨z1, e1, _, w1⟩ := DataW.trod_int Try.underlying3 g1
  obtain ⟨m, e2, hm⟩ := trod_msg g2
  simp only [List.drop_zero, List.drop_succ_cons, List.take_succ_cons, List.take_zero, List.cons.injEq, and_true] at e0 e1 e2
  subst e0 e1
  have hr : rest.take 18 = rest := List.take_of_length_le (by simp at hlen; omega)
  rw [hr] at e2
  subst e2
  exact ⟨⟨z0, z1, m⟩, rfl, ⟨i64_range w0, i64_range w1⟩, hm⟩
set_option maxRecDepth 100000 in
theorem read_ops {base : Nat} {v : Value} {d : DataW H} {p : List MemPlace} (hv : Value.okWide Try.prog W .any base 55 v) (h : DataW.Trod enc Try.prog W 0 (fun _ => true) true 55 v d p) :
  ∃ l : List Opq, SeesR W 20 opL v l ∧ ∀ o ∈ l, (I64 o.what ∧ I64 o.link) ∧ o.m.fine W := by
 obtain ⟨a, len, cap, rfl⟩ := okWide_slice Try.underlying55 hv
 obtain ⟨fuel, hf⟩ := h
 obtain ⟨v, l, hc, hs, hq, _⟩ := trod_rows opL 20 62 55 Try.underlying55 cells_op (by decide) (fun o => (I64 o.what ∧ I64 o.link) ∧ o.m.fine W) (fun n cs x hh => trod_op hh) hf
 simp only [Value.cells, List.cons.injEq, and_true] at hc
 subst hc
 exact ⟨l, hs, hq⟩
end
end Go.Proofs.Ytiednihagnehlaa

namespace Go.Proofs.Ytiednihagnehlaa
open Go.RowKit

set_option maxRecDepth 100000 in
theorem ref21_home_any (p : Int) (w : World) (h : -9223372036854775808 ≤ p ∧ p ≤ 9223372036854775807) : Calls Try.prog 56 #[.int .i64 p] w fun e w' => e = .returned (.int .i64 (homeZ p)) ∧ w = w' := by
 by_cases h1 : p < 0
 ·have t1 : decide (p < 0) = true := decide_eq_true h1
  have e : homeZ p = -1 := by unfold homeZ; rw [if_neg (by omega)]
  rw [e]
  clear h1 e
  go_enter Try.func56, Try.ntmps56
  go_wp2_with fail
  go_ret
  exact ⟨rfl, rfl⟩
 ·have t1 : decide (p < 0) = false := decide_eq_false h1
  by_cases h2 : 256 ≤ p
  ·have t2 : decide (255 < p) = true := by simp; omega
   have e : homeZ p = -1 := by unfold homeZ; rw [if_neg (by omega)]
   rw [e]
   clear h1 h2 e
   go_enter Try.func56, Try.ntmps56
   go_wp2_with fail
   go_ret
   exact ⟨rfl, rfl⟩
  ·have t2 : decide (255 < p) = false := by simp; omega
   have e : homeZ p = p / 4 := by unfold homeZ; rw [if_pos (by omega)]
   obtain ⟨n, rfl⟩ : ∃ n : Nat, p = n := ⟨p.toNat, by omega⟩
   have q : Int.tdiv (n : Int) 4 = ((n / 4 : Nat) : Int) := by rw [Int.tdiv_eq_ediv_of_nonneg (by omega)]; omega
   have q2 : IntKind.i64.wrap ((n / 4 : Nat) : Int) = ((n / 4 : Nat) : Int) := by rw [IntKind.wrap_i64]; omega
   rw [e]
   clear h1 h2 e
   go_enter Try.func56, Try.ntmps56
   go_wp2_with fail
   go_ret
   exact ⟨by simp, rfl⟩
end Go.Proofs.Ytiednihagnehlaa
