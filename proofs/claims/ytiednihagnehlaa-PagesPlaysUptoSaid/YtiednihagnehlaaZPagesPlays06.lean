/- DERIVED. How arguments read: rows of structs; values, named values, events, items, policies. · DERIVED. How a message among the arguments reads. · DERIVED. Chapter 25: how lists of tokens, of bools, of calls among the arguments read. · DERIVED. Chapter 25: the program's queue and the document's in one memory. -/
import Derived.Test.YtiednihagnehlaaRows
import Derived.Test.YtiednihagnehlaaY07
import Derived.Test.YtiednihagnehlaaY08
import Derived.Test.YtiednihagnehlaaY06
import Derived.Test.YtiednihagnehlaaZPagesPlays05
import Derived.ProofKit
import Derived.OpenShut
import Derived.Deep.Slices
import Derived.Deep.Fields
import Derived.Test.YtiednihagnehlaaY16
import Derived.Test.YtiednihagnehlaaY20
import Derived.Test.YtiednihagnehlaaZPagesPlays04
namespace Go.Proofs.Ytiednihagnehlaa
open Go.ChangeShapes Go.WideShapes Go.ChangeAt Go.RowKit Go.Deep

section
variable {H : Type} {enc : TypeId × Value → H} {W : World}
abbrev Trd (enc : TypeId × Value → H) (W : World) (fuel : Nat) (t : TypeId) (cs : List Value) (x : DataW H × List MemPlace) : Prop := DataW.trod enc Try.prog W 0 (fun _ => true) true fuel t cs = some x

/-- a slice of rows among what came in -/
theorem trod_rows_b {α : Type} [Inhabited α] (dec : α → List Value) (k : Nat) (e t : TypeId) (ht : Try.prog.underlying t = some (.slice e)) (hC : Try.prog.cellsOf e = k) (hk : 0 < k) (Q : α → Prop)
  (hd : ∀ n cs x, Trd enc W n e cs x → ∃ a, cs = dec a ∧ Q a) {fuel : Nat} {cs : List Value} {x : DataW H × List MemPlace} (h : Trd enc W fuel t cs x) :
  ∃ v l, cs = [v] ∧ SeesR W k dec v l ∧ (∀ a ∈ l, Q a) ∧ (0 < l.length → ∀ b, v.ownBlock = some b → b < W.heap.size) ∧ l.length < Rows.uptoBulk x.1 := by
 rcases open_slice ht h with ⟨hcs, hx⟩ | ⟨a, len, cap, m, n, D, Pl, hcs, _, hl, hm, hmm, hx, hi⟩
 ·exact ⟨_, [], hcs, SeesR.nil W, (fun a ha => by cases ha), (fun h => by simp at h), one_le_bulk x.1⟩
 ·simp only [if_true] at hmm
  subst hmm
  rw [hC] at hi
  have hi' : ∀ i, i < m → ∃ y : α, (∀ j u, (dec y)[j]? = some u → W.cell? (a.add (i * k + j)) = some u) ∧ (dec y).length = k ∧ Q y := by
   intro i hlt
   obtain ⟨cs', hc, ht'⟩ := hi i hlt
   obtain ⟨y, rfl, hq⟩ := hd _ _ _ ht'
   obtain ⟨_, hcl, hat⟩ := World.cells?_some hc
   refine ⟨y, fun j u hu => ?_, hcl, hq⟩
   have hj : j < k := by rw [← hcl]; exact (List.getElem?_eq_some_iff.1 hu).1
   rw [← Go.Deep.add_add, hat j hj, hu]
  obtain ⟨f, hf⟩ := choose_lt hi'
  refine ⟨_, (List.range len).map f, hcs, ⟨some a, m, by simp, by simpa using hl, hm, fun h => (by cases h), fun a' ha => ?_⟩, ?_, ?_, ?_⟩
  ·cases ha
   refine ⟨fun hc => ?_, fun j y hj i u hu => ?_⟩
   ·obtain ⟨h1, h2, _⟩ := hf 0 hc
    have h0 : (dec (f 0))[0]? = some ((dec (f 0))[0]'(by omega)) := List.getElem?_eq_getElem _
    have := h1 0 _ h0
    have hs := World.cell?_spot this
    simpa [Addr.add] using hs
   ·have hjl : j < len := by have := (List.getElem?_eq_some_iff.1 hj).1; simpa using this
    have : y = f j := by simp [hjl] at hj; exact hj.symm
    subst this
    exact (hf j (by omega)).1 i u hu
  ·intro y hy
   obtain ⟨j, hj, rfl⟩ := List.mem_map.1 hy
   exact (hf j (by have := List.mem_range.1 hj; omega)).2.2
  ·intro h0 b hb
   have hlen : 0 < len := by simpa using h0
   obtain ⟨h1, h2, _⟩ := hf 0 (by omega)
   have h0' : (dec (f 0))[0]? = some ((dec (f 0))[0]'(by omega)) := List.getElem?_eq_getElem _
   have hc := World.block_lt_of_cell? _ _ (h1 0 _ h0')
   simp [Value.ownBlock] at hb
   subst hb
   rwa [block_add] at hc
  ·subst hx
   have h1 := elems_bulk ((List.range len).map D) ((List.range (m - len)).map fun j => D (len + j))
   have h2 := length_bulk ((List.range len).map D)
   simp only [List.length_map, List.length_range] at h2 ⊢
   omega

theorem trod_rows {α : Type} [Inhabited α] (dec : α → List Value) (k : Nat) (e t : TypeId) (ht : Try.prog.underlying t = some (.slice e)) (hC : Try.prog.cellsOf e = k) (hk : 0 < k) (Q : α → Prop)
  (hd : ∀ n cs x, Trd enc W n e cs x → ∃ a, cs = dec a ∧ Q a) {fuel : Nat} {cs : List Value} {x : DataW H × List MemPlace} (h : Trd enc W fuel t cs x) :
  ∃ v l, cs = [v] ∧ SeesR W k dec v l ∧ (∀ a ∈ l, Q a) ∧ (0 < l.length → ∀ b, v.ownBlock = some b → b < W.heap.size) := by
 obtain ⟨v, l, h1, h2, h3, h4, _⟩ := trod_rows_b dec k e t ht hC hk Q hd h
 exact ⟨v, l, h1, h2, h3, h4⟩

/-- an int64, an int -/
theorem i64_range {z : Int} (h : (Lit.int .i64 z).wf = true) : -9223372036854775808 ≤ z ∧ z ≤ 9223372036854775807 := by
 simpa [Lit.wf, IntKind.min, IntKind.max, IntKind.signed, IntKind.bits] using h
theorem u64_range {z : Int} (h : (Lit.int .u64 z).wf = true) : 0 ≤ z ∧ z ≤ 18446744073709551615 := by
 simpa [Lit.wf, IntKind.min, IntKind.max, IntKind.signed, IntKind.bits] using h

theorem cells_value : Try.prog.cellsOf 66 = 4 := by kernel_rfl
theorem cells_int : Try.prog.cellsOf 3 = 1 := by kernel_rfl
theorem cells_i64 : Try.prog.cellsOf 2 = 1 := by kernel_rfl
theorem cells_u64 : Try.prog.cellsOf 28 = 1 := by kernel_rfl
theorem cells_string : Try.prog.cellsOf 9 = 1 := by kernel_rfl
theorem cells_bool : Try.prog.cellsOf 4 = 1 := by kernel_rfl
theorem cells_attr : Try.prog.cellsOf 126 = 5 := by kernel_rfl
theorem cells_attrs : Try.prog.cellsOf 31 = 1 := by kernel_rfl
theorem cells_event : Try.prog.cellsOf 33 = 2 := by kernel_rfl
theorem cells_item : Try.prog.cellsOf 35 = 4 := by kernel_rfl

theorem field_at {fs : Array Field} {xs : List (DataW H × List MemPlace)} {n : Nat} {cs : List Value}
  (hf : ∀ (i : Nat) (f : Field), fs[i]? = some f → DataW.trod enc Try.prog W 0 (fun _ => true) true n f.type ((cs.drop f.offset).take (Try.prog.cellsOf f.type)) = xs[i]?) (hl : xs.length = fs.size)
  (i : Nat) (t : TypeId) (off k : Nat) (f : Field) (h : fs[i]? = some f) (ht : f.type = t) (ho : f.offset = off) (hk : Try.prog.cellsOf t = k) : ∃ y, Trd enc W n t ((cs.drop off).take k) y := by
 subst ht ho hk
 have h1 := hf i f h
 have hi : i < xs.length := by rw [hl]; exact (Array.getElem?_eq_some_iff.1 h).1
 exact ⟨xs[i], h1.trans (List.getElem?_eq_getElem hi)⟩

set_option maxRecDepth 100000 in
theorem trod_value {n : Nat} {cs : List Value} {x : DataW H × List MemPlace} (h : Trd enc W n 66 cs x) :
  ∃ v : Val, cs = [.int .i64 v.kind, .int .i64 v.num, .string v.str, .bool v.is] ∧ (-9223372036854775808 ≤ v.num ∧ v.num ≤ 9223372036854775807) ∧ (-9223372036854775808 ≤ v.kind ∧ v.kind ≤ 9223372036854775807) ∧ v.str.size ≤ maxLen := by
 obtain ⟨xs, n', _, _, hlen, hl, hf⟩ := DataW.trod_struct Try.underlying66 h
 rw [cells_value] at hlen
 match cs, hlen with
 | [c0, c1, c2, c3], _ =>
  obtain ⟨y0, g0⟩ := field_at hf hl 0 3 0 1 _ rfl rfl rfl cells_int
  obtain ⟨y1, g1⟩ := field_at hf hl 1 2 1 1 _ rfl rfl rfl cells_i64
  obtain ⟨y2, g2⟩ := field_at hf hl 2 9 2 1 _ rfl rfl rfl cells_string
  obtain ⟨y3, g3⟩ := field_at hf hl 3 4 3 1 _ rfl rfl rfl cells_bool
  obtain ⟨z0, e0, _, w0⟩ := DataW.trod_int Try.underlying3 g0
  obtain ⟨z1, e1, _, w1⟩ := DataW.trod_int Try.underlying2 g1
  obtain ⟨z2, e2, _, w2⟩ := DataW.trod_string Try.underlying9 g2
  obtain ⟨z3, e3, _⟩ := DataW.trod_bool Try.underlying4 g3
  simp only [List.drop_zero, List.drop_succ_cons, List.take_succ_cons, List.take_zero, List.cons.injEq, and_true] at e0 e1 e2 e3
  subst e0 e1 e2 e3
  exact ⟨⟨z0, z1, z2, z3⟩, rfl, i64_range w1, i64_range w0, w2⟩

instance : Inhabited At := ⟨⟨⟨#[]⟩, ⟨0, 0, ⟨#[]⟩, false⟩⟩⟩
set_option maxRecDepth 100000 in
theorem trod_attr {n : Nat} {cs : List Value} {x : DataW H × List MemPlace} (h : Trd enc W n 126 cs x) :
  ∃ a : At, cs = a.cells ∧ (a.name.size ≤ 9223372036854775807 ∧ -9223372036854775808 ≤ a.val.num ∧ a.val.num ≤ 9223372036854775807) := by
 obtain ⟨xs, n', _, _, hlen, hl, hf⟩ := DataW.trod_struct Try.underlying126 h
 rw [cells_attr] at hlen
 match cs, hlen with
 | [c0, c1, c2, c3, c4], _ =>
  obtain ⟨y0, g0⟩ := field_at hf hl 0 9 0 1 _ rfl rfl rfl cells_string
  obtain ⟨y1, g1⟩ := field_at hf hl 1 66 1 4 _ rfl rfl rfl cells_value
  obtain ⟨z0, e0, _, w0⟩ := DataW.trod_string Try.underlying9 g0
  obtain ⟨v, e1, hv, _⟩ := trod_value g1
  simp only [List.drop_zero, List.drop_succ_cons, List.take_succ_cons, List.take_zero, List.cons.injEq, and_true] at e0 e1
  obtain ⟨rfl, rfl, rfl, rfl⟩ := e1
  subst e0
  exact ⟨⟨z0, v⟩, rfl, by unfold maxLen at w0; exact w0, hv⟩
theorem trod_attrs {n : Nat} {cs : List Value} {x : DataW H × List MemPlace} (h : Trd enc W n 31 cs x) :
  ∃ v l, cs = [v] ∧ SeesA W v l ∧ Fits l ∧ (0 < l.length → ∀ b, v.ownBlock = some b → b < W.heap.size) := by
 obtain ⟨v, l, h1, h2, h3, h4⟩ := trod_rows At.cells 5 126 31 Try.underlying31 cells_attr (by decide) _ (fun n cs x hh => trod_attr hh) h
 exact ⟨v, l, h1, h2, h3, h4⟩
set_option maxRecDepth 100000 in
theorem trod_event {n : Nat} {cs : List Value} {x : DataW H × List MemPlace} (h : Trd enc W n 33 cs x) :
  ∃ (key : ByteArray) (v : Value) (l : List At), cs = [.string key, v] ∧ SeesA W v l ∧ Fits l ∧ (0 < l.length → ∀ b, v.ownBlock = some b → b < W.heap.size) ∧ key.size ≤ maxLen := by
 obtain ⟨xs, n', _, _, hlen, hl, hf⟩ := DataW.trod_struct Try.underlying33 h
 rw [cells_event] at hlen
 match cs, hlen with
 | [c0, c1], _ =>
  obtain ⟨y0, g0⟩ := field_at hf hl 0 9 0 1 _ rfl rfl rfl cells_string
  obtain ⟨y1, g1⟩ := field_at hf hl 1 31 1 1 _ rfl rfl rfl cells_attrs
  obtain ⟨z0, e0, _, w0⟩ := DataW.trod_string Try.underlying9 g0
  obtain ⟨v, l, e1, h1, h2, h3⟩ := trod_attrs g1
  simp only [List.drop_zero, List.drop_succ_cons, List.take_succ_cons, List.take_zero, List.cons.injEq, and_true] at e0 e1
  subst e0 e1
  exact ⟨z0, _, l, rfl, h1, h2, h3, w0⟩
def Items (w : World) (lv : Value) (l : List It) : Prop := SeesR w 4 It.cells lv l ∧ ∀ x ∈ l, x.fine w
instance : Inhabited It := ⟨⟨0, 0, ⟨#[]⟩, .slice none 0 0, []⟩⟩
set_option maxRecDepth 100000 in
theorem trod_item {n : Nat} {cs : List Value} {x : DataW H × List MemPlace} (h : Trd enc W n 35 cs x) :
  ∃ a : It, cs = a.cells ∧ a.fine W := by
 obtain ⟨xs, n', _, _, hlen, hl, hf⟩ := DataW.trod_struct Try.underlying35 h
 rw [cells_item] at hlen
 match cs, hlen with
 | [c0, c1, c2, c3], _ =>
  obtain ⟨y0, g0⟩ := field_at hf hl 0 28 0 1 _ rfl rfl rfl cells_u64
  obtain ⟨y1, g1⟩ := field_at hf hl 1 28 1 1 _ rfl rfl rfl cells_u64
  obtain ⟨y2, g2⟩ := field_at hf hl 2 33 2 2 _ rfl rfl rfl cells_event
  obtain ⟨z0, e0, _, w0⟩ := DataW.trod_int Try.underlying28 g0
  obtain ⟨z1, e1, _, w1⟩ := DataW.trod_int Try.underlying28 g1
  obtain ⟨key, v, l, e2, h1, h2, h3, _⟩ := trod_event g2
  simp only [List.drop_zero, List.drop_succ_cons, List.take_succ_cons, List.take_zero, List.cons.injEq, and_true] at e0 e1 e2
  obtain ⟨rfl, rfl⟩ := e2
  subst e0 e1
  have r0 := u64_range w0
  have r1 := u64_range w1
  obtain ⟨a, rfl⟩ := Int.eq_ofNat_of_zero_le r0.1
  obtain ⟨b, rfl⟩ := Int.eq_ofNat_of_zero_le r1.1
  exact ⟨⟨a, b, key, _, l⟩, rfl, h1, h3, h2, by show a < _; omega, by show b < _; omega⟩
set_option maxRecDepth 100000 in
theorem trod_items {n : Nat} {cs : List Value} {x : DataW H × List MemPlace} (h : Trd enc W n 38 cs x) : ∃ v l, cs = [v] ∧ Items W v l := by
 obtain ⟨v, l, h1, h2, h3, _⟩ := trod_rows It.cells 4 35 38 Try.underlying38 cells_item (by decide) _ (fun n cs x hh => trod_item hh) h
 exact ⟨v, l, h1, h2, h3⟩
set_option maxRecDepth 100000 in
theorem read_items {base : Nat} {v : Value} {d : DataW H} {p : List MemPlace} (hv : Value.okWide Try.prog W .any base 38 v) (h : DataW.Trod enc Try.prog W 0 (fun _ => true) true 38 v d p) : ∃ l, Items W v l := by
 obtain ⟨a, len, cap, rfl⟩ := okWide_slice Try.underlying38 hv
 obtain ⟨fuel, hf⟩ := h
 obtain ⟨v, l, hc, hs⟩ := trod_items hf
 simp only [Value.cells, List.cons.injEq, and_true] at hc
 subst hc
 exact ⟨l, hs⟩
set_option maxRecDepth 100000 in
theorem read_item {base : Nat} {v : Value} {d : DataW H} {p : List MemPlace} (hv : Value.okWide Try.prog W .any base 35 v) (h : DataW.Trod enc Try.prog W 0 (fun _ => true) true 35 v d p) : ∃ x : It, v = .agg x.cells.toArray ∧ x.fine W := by
 obtain ⟨cs, rfl, hsz⟩ := okWide_struct Try.underlying35 hv
 obtain ⟨fuel, hf⟩ := h
 obtain ⟨x, hc, hx⟩ := trod_item hf
 refine ⟨x, ?_, hx⟩
 simp only [Value.cells] at hc
 rw [← hc]
theorem cells_con : Try.prog.cellsOf 69 = 7 := by kernel_rfl
theorem cells_vals : Try.prog.cellsOf 67 = 1 := by kernel_rfl
theorem cells_gap : Try.prog.cellsOf 116 = 2 := by kernel_rfl
theorem cells_page : Try.prog.cellsOf 41 = 5 := by kernel_rfl
theorem cells_items : Try.prog.cellsOf 38 = 1 := by kernel_rfl
theorem cells_gaps : Try.prog.cellsOf 39 = 1 := by kernel_rfl
instance : Inhabited Val := ⟨⟨0, 0, ⟨#[]⟩, false⟩⟩
instance : Inhabited Con := ⟨⟨⟨#[]⟩, 0, ⟨0, 0, ⟨#[]⟩, false⟩, .slice none 0 0, []⟩⟩
theorem trod_vals {n : Nat} {cs : List Value} {x : DataW H × List MemPlace} (h : Trd enc W n 67 cs x) :
  ∃ v l, cs = [v] ∧ SeesV W v l ∧ (∀ v ∈ l, -9223372036854775808 ≤ v.num ∧ v.num ≤ 9223372036854775807) ∧ (0 < l.length → ∀ b, v.ownBlock = some b → b < W.heap.size) := by
 obtain ⟨v, l, h1, h2, h3, h4⟩ := trod_rows valL 4 66 67 Try.underlying67 cells_value (by decide) (fun v => -9223372036854775808 ≤ v.num ∧ v.num ≤ 9223372036854775807) (fun n cs x hh => by
  obtain ⟨v, e, g, _⟩ := trod_value hh
  exact ⟨v, e, g⟩) h
 exact ⟨v, l, h1, h2, h3, h4⟩
set_option maxRecDepth 100000 in
theorem trod_con {n : Nat} {cs : List Value} {x : DataW H × List MemPlace} (h : Trd enc W n 69 cs x) :
  ∃ a : Con, cs = a.cells ∧ a.fine W := by
 obtain ⟨xs, n', _, _, hlen, hl, hf⟩ := DataW.trod_struct Try.underlying69 h
 rw [cells_con] at hlen
 match cs, hlen with
 | [c0, c1, c2, c3, c4, c5, c6], _ =>
  obtain ⟨y0, g0⟩ := field_at hf hl 0 9 0 1 _ rfl rfl rfl cells_string
  obtain ⟨y1, g1⟩ := field_at hf hl 1 3 1 1 _ rfl rfl rfl cells_int
  obtain ⟨y2, g2⟩ := field_at hf hl 2 66 2 4 _ rfl rfl rfl cells_value
  obtain ⟨y3, g3⟩ := field_at hf hl 3 67 6 1 _ rfl rfl rfl cells_vals
  obtain ⟨z0, e0, _, w0⟩ := DataW.trod_string Try.underlying9 g0
  obtain ⟨z1, e1, _, w1⟩ := DataW.trod_int Try.underlying3 g1
  obtain ⟨v, e2, hv, _⟩ := trod_value g2
  obtain ⟨sv, l, e3, h1, h2, h3⟩ := trod_vals g3
  simp only [List.drop_zero, List.drop_succ_cons, List.take_succ_cons, List.take_zero, List.cons.injEq, and_true] at e0 e1 e2 e3
  obtain ⟨rfl, rfl, rfl, rfl⟩ := e2
  subst e0 e1 e3
  exact ⟨⟨z0, z1, v, _, l⟩, rfl, h1, ⟨by unfold maxLen at w0; exact w0, hv⟩, h2, h3⟩
theorem trod_pred {n : Nat} {cs : List Value} {x : DataW H × List MemPlace} (h : Trd enc W n 30 cs x) :
  ∃ v l, cs = [v] ∧ Cons W v l ∧ (0 < l.length → ∀ b, v.ownBlock = some b → b < W.heap.size) := by
 obtain ⟨v, l, h1, h2, h3, h4⟩ := trod_rows Con.cells 7 69 30 Try.underlying30 cells_con (by decide) (fun c => c.fine W) (fun n cs x hh => trod_con hh) h
 exact ⟨v, l, h1, ⟨h2, h3⟩, h4⟩
set_option maxRecDepth 100000 in
theorem trod_gap {n : Nat} {cs : List Value} {x : DataW H × List MemPlace} (h : Trd enc W n 116 cs x) :
  ∃ g : PGap, cs = gapL g ∧ (g.1 < 18446744073709551616 ∧ g.2 < 18446744073709551616) := by
 obtain ⟨xs, n', _, _, hlen, hl, hf⟩ := DataW.trod_struct Try.underlying116 h
 rw [cells_gap] at hlen
 match cs, hlen with
 | [c0, c1], _ =>
  obtain ⟨y0, g0⟩ := field_at hf hl 0 28 0 1 _ rfl rfl rfl cells_u64
  obtain ⟨y1, g1⟩ := field_at hf hl 1 28 1 1 _ rfl rfl rfl cells_u64
  obtain ⟨z0, e0, _, w0⟩ := DataW.trod_int Try.underlying28 g0
  obtain ⟨z1, e1, _, w1⟩ := DataW.trod_int Try.underlying28 g1
  simp only [List.drop_zero, List.drop_succ_cons, List.take_succ_cons, List.take_zero, List.cons.injEq, and_true] at e0 e1
  subst e0 e1
  have r0 := u64_range w0
  have r1 := u64_range w1
  obtain ⟨a, rfl⟩ := Int.eq_ofNat_of_zero_le r0.1
  obtain ⟨b, rfl⟩ := Int.eq_ofNat_of_zero_le r1.1
  exact ⟨(a, b), rfl, by show a < _; omega, by show b < _; omega⟩
theorem field_at_mem {fs : Array Field} {xs : List (DataW H × List MemPlace)} {n : Nat} {cs : List Value}
  (hf : ∀ (i : Nat) (f : Field), fs[i]? = some f → DataW.trod enc Try.prog W 0 (fun _ => true) true n f.type ((cs.drop f.offset).take (Try.prog.cellsOf f.type)) = xs[i]?) (hl : xs.length = fs.size)
  (i : Nat) (t : TypeId) (off k : Nat) (f : Field) (h : fs[i]? = some f) (ht : f.type = t) (ho : f.offset = off) (hk : Try.prog.cellsOf t = k) : ∃ y, Trd enc W n t ((cs.drop off).take k) y ∧ y ∈ xs := by
 subst ht ho hk
 have h1 := hf i f h
 have hi : i < xs.length := by rw [hl]; exact (Array.getElem?_eq_some_iff.1 h).1
 exact ⟨xs[i], h1.trans (List.getElem?_eq_getElem hi), List.getElem_mem hi⟩
theorem part_bulk_agg {y : DataW H × List MemPlace} {xs : List (DataW H × List MemPlace)} (h : y ∈ xs) : Rows.uptoBulk y.1 ≤ Rows.uptoBulk (.agg (xs.map (·.1))) := by
 have h1 := part_bulk (d := y.1) (l := xs.map (·.1)) (List.mem_map_of_mem h)
 simp only [Rows.uptoBulk]
 omega
set_option maxRecDepth 100000 in
theorem trod_page {n : Nat} {cs : List Value} {x : DataW H × List MemPlace} (h : Trd enc W n 41 cs x) :
  ∃ a : Pg, cs = a.cells ∧ a.fine W ∧ a.its.length < Rows.uptoBulk x.1 := by
 obtain ⟨xs, n', _, rfl, hlen, hl, hf⟩ := DataW.trod_struct Try.underlying41 h
 rw [cells_page] at hlen
 match cs, hlen with
 | [c0, c1, c2, c3, c4], _ =>
  obtain ⟨y0, g0⟩ := field_at hf hl 0 28 0 1 _ rfl rfl rfl cells_u64
  obtain ⟨y1, g1⟩ := field_at hf hl 1 28 1 1 _ rfl rfl rfl cells_u64
  obtain ⟨y2, g2, hy2⟩ := field_at_mem hf hl 2 38 2 1 _ rfl rfl rfl cells_items
  obtain ⟨y3, g3⟩ := field_at hf hl 3 39 3 1 _ rfl rfl rfl cells_gaps
  obtain ⟨y4, g4⟩ := field_at hf hl 4 4 4 1 _ rfl rfl rfl cells_bool
  obtain ⟨z0, e0, _, w0⟩ := DataW.trod_int Try.underlying28 g0
  obtain ⟨z1, e1, _, w1⟩ := DataW.trod_int Try.underlying28 g1
  obtain ⟨iv, its, e2, i1, i2, i3, i4⟩ := trod_rows_b It.cells 4 35 38 Try.underlying38 cells_item (by decide) (fun x => x.fine W) (fun n cs x hh => trod_item hh) g2
  obtain ⟨gv, gs, e3, j1, j2, j3⟩ := trod_rows gapL 2 116 39 Try.underlying39 cells_gap (by decide) (fun g => g.1 < 18446744073709551616 ∧ g.2 < 18446744073709551616) (fun n cs x hh => trod_gap hh) g3
  obtain ⟨z4, e4, _⟩ := DataW.trod_bool Try.underlying4 g4
  simp only [List.drop_zero, List.drop_succ_cons, List.take_succ_cons, List.take_zero, List.cons.injEq, and_true] at e0 e1 e2 e3 e4
  subst e0 e1 e2 e3 e4
  have r0 := u64_range w0
  have r1 := u64_range w1
  obtain ⟨a, rfl⟩ := Int.eq_ofNat_of_zero_le r0.1
  obtain ⟨b, rfl⟩ := Int.eq_ofNat_of_zero_le r1.1
  exact ⟨⟨a, b, _, its, _, gs, z4⟩, rfl, ⟨⟨i1, i2, j1⟩, j2, ⟨by show a < _; omega, by show b < _; omega⟩, i3, j3⟩, Nat.lt_of_lt_of_le i4 (part_bulk_agg hy2)⟩
set_option maxRecDepth 100000 in
theorem read_event {base : Nat} {v : Value} {d : DataW H} {p : List MemPlace} (hv : Value.okWide Try.prog W .any base 33 v) (h : DataW.Trod enc Try.prog W 0 (fun _ => true) true 33 v d p) :
  ∃ (key : ByteArray) (a : Value) (l : List At), v = .agg #[.string key, a] ∧ SeesA W a l ∧ Fits l ∧ (0 < l.length → ∀ b, a.ownBlock = some b → b < W.heap.size) := by
 obtain ⟨cs, rfl, hsz⟩ := okWide_struct Try.underlying33 hv
 obtain ⟨fuel, hf⟩ := h
 obtain ⟨key, a, l, hc, h1, h2, h3, _⟩ := trod_event hf
 refine ⟨key, a, l, ?_, h1, h2, h3⟩
 simp only [Value.cells] at hc
 obtain ⟨cs⟩ := cs
 simp only at hc
 rw [hc]
set_option maxRecDepth 100000 in
theorem read_page {base : Nat} {v : Value} {d : DataW H} {p : List MemPlace} (hv : Value.okWide Try.prog W .any base 41 v) (h : DataW.Trod enc Try.prog W 0 (fun _ => true) true 41 v d p) : ∃ x : Pg, v = .agg x.cells.toArray ∧ x.fine W ∧ x.its.length < Rows.uptoBulk d := by
 obtain ⟨cs, rfl, hsz⟩ := okWide_struct Try.underlying41 hv
 obtain ⟨fuel, hf⟩ := h
 obtain ⟨x, hc, hx⟩ := trod_page hf
 refine ⟨x, ?_, hx⟩
 simp only [Value.cells] at hc
 rw [← hc]
set_option maxRecDepth 100000 in
theorem read_pred {base : Nat} {v : Value} {d : DataW H} {p : List MemPlace} (hv : Value.okWide Try.prog W .any base 30 v) (h : DataW.Trod enc Try.prog W 0 (fun _ => true) true 30 v d p) :
  ∃ l, Cons W v l ∧ (0 < l.length → ∀ b, v.ownBlock = some b → b < W.heap.size) := by
 obtain ⟨a, len, cap, rfl⟩ := okWide_slice Try.underlying30 hv
 obtain ⟨fuel, hf⟩ := h
 obtain ⟨v, l, hc, h1, h2⟩ := trod_pred hf
 simp only [Value.cells, List.cons.injEq, and_true] at hc
 subst hc
 exact ⟨l, h1, h2⟩
set_option maxRecDepth 100000 in
theorem read_u64 {base : Nat} {v : Value} {d : DataW H} {p : List MemPlace} (hv : Value.okWide Try.prog W .any base 28 v) (h : DataW.Trod enc Try.prog W 0 (fun _ => true) true 28 v d p) : ∃ n : Nat, v = .int .u64 n ∧ n < 18446744073709551616 := by
 obtain ⟨z, rfl, rfl, rfl, wn⟩ := open_int Try.underlying28 hv h
 have hr := u64_range wn
 obtain ⟨m, rfl⟩ := Int.eq_ofNat_of_zero_le hr.1
 exact ⟨m, rfl, by omega⟩
end
end Go.Proofs.Ytiednihagnehlaa

namespace Go.Proofs.Ytiednihagnehlaa
open Go.ChangeShapes Go.WideShapes Go.ChangeAt Go.RowKit Go.Deep

section
variable {H : Type} {enc : TypeId × Value → H} {W : World}
theorem cells_rmsg : Try.prog.cellsOf 60 = 18 := by kernel_rfl
theorem cells_rtok : Try.prog.cellsOf 45 = 3 := by kernel_rfl
theorem cells_pred : Try.prog.cellsOf 30 = 1 := by kernel_rfl
set_option maxRecDepth 100000 in
theorem trod_rtok {n : Nat} {cs : List Value} {x : DataW H × List MemPlace} (h : Trd enc W n 45 cs x) :
  ∃ (a : Int) (b c : Nat), cs = [.int .i64 a, .int .u64 b, .int .u64 c] ∧ I64 a ∧ U64 b ∧ U64 c := by
 obtain ⟨xs, n', _, _, hlen, hl, hf⟩ := DataW.trod_struct Try.underlying45 h
 rw [cells_rtok] at hlen
 match cs, hlen with
 | [c0, c1, c2], _ =>
  obtain ⟨y0, g0⟩ := field_at hf hl 0 3 0 1 _ rfl rfl rfl cells_int
  obtain ⟨y1, g1⟩ := field_at hf hl 1 28 1 1 _ rfl rfl rfl cells_u64
  obtain ⟨y2, g2⟩ := field_at hf hl 2 28 2 1 _ rfl rfl rfl cells_u64
  obtain ⟨z0, e0, _, w0⟩ := DataW.trod_int Try.underlying3 g0
  obtain ⟨z1, e1, _, w1⟩ := DataW.trod_int Try.underlying28 g1
  obtain ⟨z2, e2, _, w2⟩ := DataW.trod_int Try.underlying28 g2
  simp only [List.drop_zero, List.drop_succ_cons, List.take_succ_cons, List.take_zero, List.cons.injEq, and_true] at e0 e1 e2
  subst e0 e1 e2
  have r1 := u64_range w1
  have r2 := u64_range w2
  obtain ⟨b, rfl⟩ := Int.eq_ofNat_of_zero_le r1.1
  obtain ⟨c, rfl⟩ := Int.eq_ofNat_of_zero_le r2.1
  exact ⟨z0, b, c, rfl, i64_range w0, by unfold U64; omega, by unfold U64; omega⟩
set_option maxRecDepth 100000 in
theorem trod_msg {n : Nat} {cs : List Value} {x : DataW H × List MemPlace} (h : Trd enc W n 60 cs x) :
  ∃ m : Ms, cs = m.cells ∧ m.fine W := by
 obtain ⟨xs, n', _, _, hlen, hl, hf⟩ := DataW.trod_struct Try.underlying60 h
 rw [cells_rmsg] at hlen
 match cs, hlen with
 | [c0, c1, c2, c3, c4, c5, c6, c7, c8, c9, c10, c11, c12, c13, c14, c15, c16, c17], _ =>
  obtain ⟨y0, g0⟩ := field_at hf hl 0 3 0 1 _ rfl rfl rfl cells_int
  obtain ⟨y1, g1⟩ := field_at hf hl 1 3 1 1 _ rfl rfl rfl cells_int
  obtain ⟨y2, g2⟩ := field_at hf hl 2 28 2 1 _ rfl rfl rfl cells_u64
  obtain ⟨y3, g3⟩ := field_at hf hl 3 4 3 1 _ rfl rfl rfl cells_bool
  obtain ⟨y4, g4⟩ := field_at hf hl 4 30 4 1 _ rfl rfl rfl cells_pred
  obtain ⟨y5, g5⟩ := field_at hf hl 5 35 5 4 _ rfl rfl rfl cells_item
  obtain ⟨y6, g6⟩ := field_at hf hl 6 45 9 3 _ rfl rfl rfl cells_rtok
  obtain ⟨y7, g7⟩ := field_at hf hl 7 28 12 1 _ rfl rfl rfl cells_u64
  obtain ⟨y8, g8⟩ := field_at hf hl 8 41 13 5 _ rfl rfl rfl cells_page
  obtain ⟨z0, e0, _, w0⟩ := DataW.trod_int Try.underlying3 g0
  obtain ⟨z1, e1, _, w1⟩ := DataW.trod_int Try.underlying3 g1
  obtain ⟨z2, e2, _, w2⟩ := DataW.trod_int Try.underlying28 g2
  obtain ⟨z3, e3, _⟩ := DataW.trod_bool Try.underlying4 g3
  obtain ⟨pv, ps, e4, p1, p2⟩ := trod_pred g4
  obtain ⟨it, e5, i1⟩ := trod_item g5
  obtain ⟨tb, tl, tc, e6, t1, t2, t3⟩ := trod_rtok g6
  obtain ⟨z7, e7, _, w7⟩ := DataW.trod_int Try.underlying28 g7
  obtain ⟨pg, e8, q1, _⟩ := trod_page g8
  simp only [List.drop_zero, List.drop_succ_cons, List.take_succ_cons, List.take_zero, List.cons.injEq, and_true, It.cells, Pg.cells] at e0 e1 e2 e3 e4 e5 e6 e7 e8
  have r2 := u64_range w2
  have r7 := u64_range w7
  obtain ⟨ver, rfl⟩ := Int.eq_ofNat_of_zero_le r2.1
  obtain ⟨frm, rfl⟩ := Int.eq_ofNat_of_zero_le r7.1
  obtain ⟨rfl, rfl, rfl, rfl⟩ := e5
  obtain ⟨rfl, rfl, rfl⟩ := e6
  obtain ⟨rfl, rfl, rfl, rfl, rfl⟩ := e8
  subst e0 e1 e2 e3 e4 e7
  exact ⟨⟨z0, z1, ver, z3, _, ps, it, tb, tl, tc, frm, pg⟩, rfl, ⟨p1, p2⟩, i1, q1, ⟨i64_range w0, i64_range w1, t1⟩, by show ver < _; omega, t2, t3, by show frm < _; omega⟩
set_option maxRecDepth 100000 in
theorem read_msg {base : Nat} {v : Value} {d : DataW H} {p : List MemPlace} (hv : Value.okWide Try.prog W .any base 60 v) (h : DataW.Trod enc Try.prog W 0 (fun _ => true) true 60 v d p) : ∃ x : Ms, v = .agg x.cells.toArray ∧ x.fine W := by
 obtain ⟨cs, rfl, hsz⟩ := okWide_struct Try.underlying60 hv
 obtain ⟨fuel, hf⟩ := h
 obtain ⟨x, hc, hx⟩ := trod_msg hf
 refine ⟨x, ?_, hx⟩
 simp only [Value.cells] at hc
 rw [← hc]
end
end Go.Proofs.Ytiednihagnehlaa

namespace Go.Proofs.Ytiednihagnehlaa
open Go.ChangeShapes Go.WideShapes Go.ChangeAt Go.RowKit Go.Deep

/-- a token -/
structure Tk where
 b : Int
 l : Nat
 c : Nat
def tokL (t : Tk) : List Value := [.int .i64 t.b, .int .u64 (t.l : Int), .int .u64 (t.c : Int)]
def boolL (b : Bool) : List Value := [.bool b]
/-- a call of the queue -/
structure Opq where
 what : Int
 link : Int
 m : Ms
def opL (x : Opq) : List Value := .int .i64 x.what :: .int .i64 x.link :: x.m.cells
instance : Inhabited Tk := ⟨⟨0, 0, 0⟩⟩
instance : Inhabited Opq := ⟨⟨0, 0, zeroMs⟩⟩
section
variable {H : Type} {enc : TypeId × Value → H} {W : World}
set_option maxRecDepth 100000 in
theorem read_toks {base : Nat} {v : Value} {d : DataW H} {p : List MemPlace} (hv : Value.okWide Try.prog W .any base 22 v) (h : DataW.Trod enc Try.prog W 0 (fun _ => true) true 22 v d p) :
  ∃ l : List Tk, SeesR W 3 tokL v l ∧ ∀ t ∈ l, I64 t.b ∧ U64 t.l ∧ U64 t.c := by
 obtain ⟨a, len, cap, rfl⟩ := okWide_slice Try.underlying22 hv
 obtain ⟨fuel, hf⟩ := h
 obtain ⟨v, l, hc, hs, hq, _⟩ := trod_rows tokL 3 45 22 Try.underlying22 cells_rtok (by decide) (fun t => I64 t.b ∧ U64 t.l ∧ U64 t.c) (fun n cs x hh => by
  obtain ⟨a, b, c, e, g1, g2, g3⟩ := trod_rtok hh
  exact ⟨⟨a, b, c⟩, e, g1, g2, g3⟩) hf
 simp only [Value.cells, List.cons.injEq, and_true] at hc
 subst hc
 exact ⟨l, hs, hq⟩
set_option maxRecDepth 100000 in
theorem read_bools {base : Nat} {v : Value} {d : DataW H} {p : List MemPlace} (hv : Value.okWide Try.prog W .any base 23 v) (h : DataW.Trod enc Try.prog W 0 (fun _ => true) true 23 v d p) :
  ∃ l : List Bool, SeesR W 1 boolL v l := by
 obtain ⟨a, len, cap, rfl⟩ := okWide_slice Try.underlying23 hv
 obtain ⟨fuel, hf⟩ := h
 obtain ⟨v, l, hc, hs, _⟩ := trod_rows boolL 1 4 23 Try.underlying23 cells_bool (by decide) (fun _ => True) (fun n cs x hh => by
  obtain ⟨b, e, _⟩ := DataW.trod_bool Try.underlying4 hh
  exact ⟨b, e, trivial⟩) hf
 simp only [Value.cells, List.cons.injEq, and_true] at hc
 subst hc
 exact ⟨l, hs⟩
theorem cells_op : Try.prog.cellsOf 62 = 20 := by kernel_rfl
set_option maxRecDepth 100000 in
theorem trod_op {n : Nat} {cs : List Value} {x : DataW H × List MemPlace} (h : Trd enc W n 62 cs x) :
  ∃ o : Opq, cs = opL o ∧ (I64 o.what ∧ I64 o.link) ∧ o.m.fine W := by
 obtain ⟨xs, n', _, _, hlen, hl, hf⟩ := DataW.trod_struct Try.underlying62 h
 rw [cells_op] at hlen
 match cs, hlen with
 | c0 :: c1 :: rest, hlen =>
  obtain ⟨y0, g0⟩ := field_at hf hl 0 3 0 1 _ rfl rfl rfl cells_int
  obtain ⟨y1, g1⟩ := field_at hf hl 1 3 1 1 _ rfl rfl rfl cells_int
  obtain ⟨y2, g2⟩ := field_at hf hl 2 60 2 18 _ rfl rfl rfl cells_rmsg
  obtain ⟨z0, e0, _, w0⟩ := DataW.trod_int Try.underlying3 g0
  obtain ⟨z1, e1, _, w1⟩ := DataW.trod_int Try.underlying3 g1
  obtain ⟨m, e2, hm⟩ := trod_msg g2
  simp only [List.drop_zero, List.drop_succ_cons, List.take_succ_cons, List.take_zero, List.cons.injEq, and_true] at e0 e1 e2
  subst e0 e1
  have hr : rest.take 18 = rest := List.take_of_length_le (by simp at hlen; omega)
  rw [hr] at e2
  subst e2
  exact ⟨⟨z0, z1, m⟩, rfl, ⟨i64_range w0, i64_range w1⟩, hm⟩
set_option maxRecDepth 100000 in
theorem read_ops {base : Nat} {v : Value} {d : DataW H} {p : List MemPlace} (hv : Value.okWide Try.prog W .any base 55 v) (h : DataW.Trod enc Try.prog W 0 (fun _ => true) true 55 v d p) :
  ∃ l : List Opq, SeesR W 20 opL v l ∧ ∀ o ∈ l, (I64 o.what ∧ I64 o.link) ∧ o.m.fine W := by
 obtain ⟨a, len, cap, rfl⟩ := okWide_slice Try.underlying55 hv
 obtain ⟨fuel, hf⟩ := h
 obtain ⟨v, l, hc, hs, hq, _⟩ := trod_rows opL 20 62 55 Try.underlying55 cells_op (by decide) (fun o => (I64 o.what ∧ I64 o.link) ∧ o.m.fine W) (fun n cs x hh => trod_op hh) hf
 simp only [Value.cells, List.cons.injEq, and_true] at hc
 subst hc
 exact ⟨l, hs, hq⟩
end
end Go.Proofs.Ytiednihagnehlaa

namespace Go.Proofs.Ytiednihagnehlaa
open Go.RowKit

theorem QuP.other {R R1 S S' : Nat → Prop} {w w' : World} {qb most : Nat} {P : List (Int × PMs)} (h : QuP R S w qb most P) (hk : Keeps R1 w w') (h1 : ∀ k, R1 k → S k) (hd : ∀ k, R k → ¬ R1 k) (hS : ∀ k, S k → S' k) (hS' : ∀ k, S' k → S k ∨ w.heap.size ≤ k) (hz : ∀ k, S' k → k < w'.heap.size) : QuP R S' w' qb most P := by
 obtain ⟨L, e, h⟩ := h
 exact ⟨L, e, h.other hk h1 hd hS hS' hz⟩
/-- the program's queue holds P, the document's Pd -/
structure TwoR (R S : Nat → Prop) (w0 w : World) (qb rb most : Nat) (P Pd : List (Int × PMs)) : Prop where
 prog : QuP R S w qb most P
 doc : Dq (fun k => S k ∧ k ≠ rb) w rb most Pd
 inS : S rb
 outR : ¬ R rb
 lo : ∀ k, S k → w0.heap.size ≤ k
 old : Old w0 w
section
variable {R S R' S' : Nat → Prop} {w0 w w' : World} {qb qb' rb most : Nat} {P Pd P' Pd' : List (Int × PMs)}
theorem TwoR.lt (h : TwoR R S w0 w qb rb most P Pd) : (∀ k, R k → S k) ∧ ∀ k, S k → k < w.heap.size := ⟨h.prog.facts.2.1, h.prog.facts.2.2⟩
/-- the program worked -/
theorem TwoR.ofProg (h : TwoR R S w0 w qb rb most P Pd) (hp : QuP R' S' w' qb' most P') (hk : Keeps R w w') (hS : ∀ k, S k → S' k) (hS' : ∀ k, S' k → S k ∨ w.heap.size ≤ k) (hR : ∀ k, R' k → R k ∨ w.heap.size ≤ k) : TwoR R' S' w0 w' qb' rb most P' Pd := by
 have hz := h.old.size
 have hrb := h.doc.lt.1
 refine ⟨hp, h.doc.to (hk.weaken (fun k _ r => ⟨h.lt.1 k r, fun e => h.outR (e ▸ r)⟩)) (fun k t => ?_) (fun k t => hp.facts.2.2 k t.1), hS _ h.inS, fun r => ?_, fun k s => ?_, h.old.then hk (fun i hi r => ?_)⟩
 ·rcases hS' k t.1 with s | s
  ·exact .inl ⟨s, t.2⟩
  ·exact .inr s
 ·rcases hR rb r with r | r
  ·exact h.outR r
  ·omega
 ·rcases hS' k s with s | s
  ·exact h.lo k s
  ·omega
 ·have := h.lo i (h.lt.1 i r); omega
/-- the document worked -/
theorem TwoR.ofDoc (h : TwoR R S w0 w qb rb most P Pd) (hd : Dq (fun k => S k ∧ k ≠ rb) w' rb most Pd') (hk : Keeps (fun k => k = rb) w w') : TwoR R S w0 w' qb rb most P Pd' := by
 refine ⟨h.prog.other hk (fun k e => by subst e; exact h.inS) (fun k r e => by subst e; exact h.outR r) (fun _ s => s) (fun _ s => .inl s) (fun k s => Nat.lt_of_lt_of_le (h.lt.2 k s) hk.size), hd, h.inS, h.outR, h.lo, h.old.then hk (fun i hi e => ?_)⟩
 subst e
 have := h.lo _ h.inS
 omega
theorem TwoR.toOld (h : TwoR R S w0 w qb rb most P Pd) (hk : Old w w') : TwoR R S w0 w' qb rb most P Pd := ⟨h.prog.old hk, h.doc.old hk, h.inS, h.outR, h.lo, h.old.trans hk⟩
/-- a new block that the law will write -/
theorem TwoR.more (h : TwoR R S w0 w qb rb most P Pd) (hk : Old w w') (M : Nat → Prop) (hM : ∀ k, M k → w.heap.size ≤ k ∧ k < w'.heap.size) : TwoR R (fun k => S k ∨ M k) w0 w' qb rb most P Pd := by
 have hz := h.old.size
 have hrb := h.doc.lt.1
 refine ⟨h.prog.other (R1 := fun _ => False) hk (fun _ f => f.elim) (fun _ _ f => f) (fun _ s => .inl s) (fun k s => s.imp id (fun m => (hM k m).1)) (fun k s => ?_), h.doc.to (hk.weaken (fun _ _ f => f.elim)) (fun k t => ?_) (fun k t => ?_), .inl h.inS, h.outR, fun k s => ?_, h.old.trans hk⟩
 ·rcases s with s | m
  ·exact Nat.lt_of_lt_of_le (h.lt.2 k s) hk.size
  ·exact (hM k m).2
 ·rcases t.1 with s | m
  ·exact .inl ⟨s, t.2⟩
  ·exact .inr (hM k m).1
 ·rcases t.1 with s | m
  ·exact Nat.lt_of_lt_of_le (h.lt.2 k s) hk.size
  ·exact (hM k m).2
 ·rcases s with s | m
  ·exact h.lo k s
  ·have := (hM k m).1; omega
/-- the law wrote what is its own -/
theorem TwoR.wrote (h : TwoR R S w0 w qb rb most P Pd) (M : Nat → Prop) (hk : Keeps M w w') (h1 : ∀ k, M k → S k ∧ ¬ R k ∧ k ≠ rb) : TwoR R S w0 w' qb rb most P Pd := by
 have hz : ∀ k, S k → k < w'.heap.size := fun k s => Nat.lt_of_lt_of_le (h.lt.2 k s) hk.size
 refine ⟨h.prog.other hk (fun k m => (h1 k m).1) (fun k r m => (h1 k m).2.1 r) (fun _ s => s) (fun _ s => .inl s) hz, h.doc.to (hk.weaken (fun k _ m => ⟨(h1 k m).1, (h1 k m).2.2⟩)) (fun _ t => .inl t) (fun k t => hz k t.1), h.inS, h.outR, h.lo, h.old.then hk (fun i hi m => ?_)⟩
 have := h.lo i (h1 i m).1
 omega
end
theorem next_anyq {R S : Nat → Prop} {w : World} {qb most : Nat} {P : List (Int × PMs)} (h : QuP R S w qb most P) (hm : 1 ≤ most) : Calls Try.prog 14 #[.pointer (some ⟨qb, 0, none⟩)] w fun e w' => ∃ (a : Int) (m : Ms) (b : Bool) (P' : List (Int × PMs)), e = .returned (.tuple #[.int .i64 a, .agg m.cells.toArray, .bool b]) ∧ QuP R S w' qb most P' ∧ Keeps R w w' := by
 cases P with
 | nil => exact (next_empty h hm).mono fun e w' hh => ⟨0, zeroMs, false, [], hh.1, h.old hh.2, hh.2.weaken (fun _ _ f => f.elim)⟩
 | cons x P => exact (next_some h hm).mono fun e w' ⟨m, he, _, _, hq, hk⟩ => ⟨x.1, m, true, P, he, hq, hk⟩
/-- both hold the same, at most i -/
def TwoE (w0 w : World) (qb rb most i : Nat) : Prop := ∃ R S P, TwoR R S w0 w qb rb most P P ∧ P.length ≤ i
theorem TwoE.old {w0 w w' : World} {qb rb most i : Nat} (h : TwoE w0 w qb rb most i) (hk : Old w w') : TwoE w0 w' qb rb most i := by
 obtain ⟨R, S, P, h, hl⟩ := h
 exact ⟨R, S, P, h.toOld hk, hl⟩
theorem TwoE.from {w0 w : World} {qb rb most i : Nat} (h : TwoE w0 w qb rb most i) : Old w0 w := by
 obtain ⟨R, S, P, h, hl⟩ := h
 exact h.old
theorem addP_len (most : Nat) (P : List (Int × PMs)) (x : Int × PMs) : (addP most P x).2.length ≤ P.length + 1 := by
 have hf : (P.filter fun y => !dropP x.2.tb x.2.tl y).length ≤ P.length := List.length_filter_le _ _
 unfold addP
 split
 ·split
  ·split
   ·exact Nat.le_succ _
   ·split
    ·exact Nat.le_succ_of_le hf
    ·rw [List.length_append]; simp; omega
  ·exact Nat.le_succ _
 ·exact Nat.le_succ _
/-- a message of the arguments, as it lies there -/
theorem arg_steady {S : Nat → Prop} {w0 w : World} {m : Ms} (h : m.fine w0) (ho : Old w0 w) (hS : ∀ k, S k → w0.heap.size ≤ k) : Steady S w m := fun W hW =>
 h.old (ho.then hW (fun i hi s => by have := hS i s; omega))
/-- and with its predicate's rows laid anew -/
theorem own_steady {S : Nat → Prop} {w0 w : World} {m : Ms} {B : Nat} {p : Option Addr} {n c : Nat} (h : m.fine w0) (ho : Old w0 w) (hS : ∀ k, S k → w0.heap.size ≤ k) (hr : OwnsR w B 69 7 Con.cells (.slice p n c) m.ps) (hb : ∀ b, (Value.slice p n c).ownBlock = some b → ¬ S b) :
  Steady S w { m with pv := .slice p n c } := fun W hW => by
 have hf := arg_steady h ho hS W hW
 have hr' := hr.keeps hW hb
 exact ⟨⟨⟨hr'.sees (fun _ => rfl) (by decide), hf.1.1.2⟩, fun _ b e => (hr'.block b e).2⟩, hf.2⟩
theorem opL_len' (x : Opq) : (opL x).length = 20 := rfl
theorem load_opw {w : World} {b o : Nat} {x : Opq} (h : ∀ i u, (opL x)[i]? = some u → w.cell? ⟨b, o + i, none⟩ = some u) : (loadVar 62 ⟨b, o, none⟩).run Try.prog w = .ok (.agg (opL x).toArray) w :=
 load_sub (cs := (opL x).toArray) (fun j v hv => h j v (by simpa using hv)) Try.underlying62 rfl (by kernel_rfl)
def zeroOp : Opq := ⟨0, 0, zeroMs⟩
theorem store_opw {w : World} {mb : Nat} {t : TypeId} {y : Opq} (h : w.heap[mb]? = some (.cells (opL y).toArray t (0, 0))) (x : Opq) (h1 : (opL x).toArray.all (·.oneCell') = true) :
  ∃ w', (storeVar 62 ⟨mb, 0, none⟩ (.agg (opL x).toArray)).run Try.prog w = .ok () w' ∧ w'.heap[mb]? = some (.cells (opL x).toArray t (0, 0)) ∧ Keeps (fun k => k = mb) w w' :=
 store_cells h _ (by simp [opL_len']) (by simp only [List.size_toArray, opL_len']; kernel_rfl) h1 (putRange_whole (by simp [opL_len']))
/-- a call's block -/
theorem op_parts {w : World} {b : Nat} {x : Opq} {t : TypeId} (h : w.heap[b]? = some (.cells (opL x).toArray t (0, 0))) :
  (w.cell? ⟨b, 0, none⟩ = some (.int .i64 x.what) ∧ w.cell? ⟨b, 1, none⟩ = some (.int .i64 x.link) ∧ w.cell? ⟨b, 6, none⟩ = some x.m.pv ∧ w.cell? ⟨b, 11, none⟩ = some (.int .i64 x.m.tb) ∧ w.cell? ⟨b, 12, none⟩ = some (.int .u64 (x.m.tl : Int))) ∧
   (loadVar 60 ⟨b, 2, none⟩).run Try.prog w = .ok (.agg x.m.cells.toArray) w := by
 refine ⟨by simp [World.cell?, h, opL, Ms.cells], load_sub (cs := x.m.cells.toArray) (fun j v hv => by
  have hv' : x.m.cells[j]? = some v := by simpa using hv
  have : (opL x).toArray[2 + j]? = some v := by simpa [opL, Nat.add_comm 2 j] using hv'
  simp only [World.cell?]
  rw [h]
  simpa using this) Try.underlying60 rfl (by simp only [List.size_toArray]; show _ = some 18; kernel_rfl)⟩
end Go.Proofs.Ytiednihagnehlaa
