/- DERIVED. How arguments read: bytes; and what the bound on their bulk gives. · DERIVED. How arguments read: rows of structs; values, named values, events, items, policies. · DERIVED. The library's contracts at this program, laid by the kit's shelf in plain words: strings.Trim; slices.Sorted of a map's keys. · DERIVED. crc: the table of steps. -/
import Derived.Test.YtfnanbadbmmicaaGreatDoorRows
import Derived.Test.YtfnanbadbmmicaaGreatDoorY01
import Derived.ProofKit
import Derived.OpenShut
import Derived.Test.YtfnanbadbmmicaaGreatDoorY09
import Derived.Test.YtfnanbadbmmicaaGreatDoorY08
import Derived.Test.YtfnanbadbmmicaaGreatDoorY10
import Derived.Deep.Slices
import Derived.Deep.Fields
import Derived.Shelf.Strings.SlTrimAscii
import Derived.Shelf.SlIter.Nil
import Derived.Shelf.SortM.Plain
import Derived.Shelf.SortM.SortNone
import Derived.Shelf.SlGeneric
import Derived.Test.YtfnanbadbmmicaaGreatDoorProg
namespace Go.Proofs.YtfnanbadbmmicaaGreatDoor
open Go.ChangeShapes Go.WideShapes Go.ChangeAt Go.RowKit

theorem one_le_bulk {H : Type} (d : DataW H) : 1 ≤ Rows.uptoBulk d := by
 cases d with
 | lit l => cases l <;> simp [Rows.uptoBulk]
 | nil => simp [Rows.uptoBulk]
 | ptr d => simp [Rows.uptoBulk]
 | slice elems spare => simp [Rows.uptoBulk]
 | agg parts => simp [Rows.uptoBulk]
 | iface t d => simp [Rows.uptoBulk]
 | map entries => simp [Rows.uptoBulk]
 | held h => simp [Rows.uptoBulk]
theorem part_bulk {H : Type} {d : DataW H} {l : List (DataW H)} (h : d ∈ l) : Rows.uptoBulk d ≤ Rows.uptoBulkAll l := by
 induction l with
 | nil => cases h
 | cons x r ih =>
  simp only [Rows.uptoBulkAll]
  cases List.mem_cons.1 h with
  | inl e => subst e; omega
  | inr e => have := ih e; omega
theorem length_bulk {H : Type} (l : List (DataW H)) : l.length ≤ Rows.uptoBulkAll l := by
 induction l with
 | nil => simp [Rows.uptoBulkAll]
 | cons x r ih => have := one_le_bulk x; simp only [Rows.uptoBulkAll, List.length_cons]; omega
theorem elems_bulk {H : Type} (elems spare : List (DataW H)) : Rows.uptoBulkAll elems + 1 ≤ Rows.uptoBulk (.slice elems spare) := by
 simp only [Rows.uptoBulk]; omega

/-- a []byte among what came in, at whatever depth -/
theorem trod_bytes {H : Type} {enc : TypeId × Value → H} {W : World} {fuel : Nat} {cs : List Value} {x : DataW H × List MemPlace} (hf : DataW.trod enc Tryz.prog W 0 (fun _ => true) true fuel 25 cs = some x) :
  ∃ (v : Value) (l : List UInt8), cs = [v] ∧ Sees W v l ∧ l.length < Rows.uptoBulk x.1 := by
 rcases open_ints Tryz.underlying25 Tryz.underlying5 (by kernel_rfl) hf with ⟨hcs, hx⟩ | ⟨a, len, cap, zs, hcs, _, hl, hm, hz, hx, hcell, hwz⟩
 ·exact ⟨_, [], hcs, Sees.nil W, one_le_bulk x.1⟩
 ·subst hx
  have hz' : zs.length = cap := by simpa using hz
  have hlen : ((zs.take len).map fun z => UInt8.ofNat z.toNat).length = len := by simp; omega
  refine ⟨_, (zs.take len).map fun z => UInt8.ofNat z.toNat, hcs, ⟨some a, cap, by rw [hlen], by rw [hlen]; exact hl, hm, fun h => (by cases h), fun a' ha => ?_⟩, ?_⟩
  ·cases ha
   refine ⟨fun hc => ?_, fun j b hj => ?_⟩
   ·have := hcell 0 (by omega)
    have hs := World.cell?_spot this
    simpa [Addr.add] using hs
   ·rw [List.getElem?_map, Option.map_eq_some_iff] at hj
    obtain ⟨z, hz1, rfl⟩ := hj
    rw [List.getElem?_take] at hz1
    split at hz1
    ·have hjl := (List.getElem?_eq_some_iff.1 hz1).1
     rw [hcell j hjl]
     have hzz : zs.getD j 0 = z := by simp [List.getD, hz1]
     have hw := hwz z (List.mem_of_getElem? hz1)
     have hr : 0 ≤ z ∧ z ≤ 255 := by simpa [Lit.wf, IntKind.min, IntKind.max, IntKind.signed, IntKind.bits] using hw
     rw [hzz]
     unfold u8
     rw [UInt8.toNat_ofNat']
     congr 2
     omega
    ·cases hz1
  ·rw [hlen]
   have h1 := elems_bulk (lits (H := H) .u8 (zs.take len)) (lits .u8 (zs.drop len))
   have h2 := length_bulk (lits (H := H) .u8 (zs.take len))
   have h3 : (lits (H := H) .u8 (zs.take len)).length = len := by simp [lits]; omega
   simp only at h1 ⊢
   omega
set_option maxRecDepth 100000 in
theorem read_bytes {H : Type} {enc : TypeId × Value → H} {W : World} {base : Nat} {v : Value} {d : DataW H} {p : List MemPlace} (hv : Value.okWide Tryz.prog W .any base 25 v)
  (h : DataW.Trod enc Tryz.prog W 0 (fun _ => true) true 25 v d p) : ∃ l : List UInt8, Sees W v l ∧ l.length < Rows.uptoBulk d := by
 obtain ⟨a, len, cap, rfl⟩ := okWide_slice Tryz.underlying25 hv
 obtain ⟨fuel, hf⟩ := h
 obtain ⟨v, l, hc, hs, hl⟩ := trod_bytes hf
 simp only [Value.cells, List.cons.injEq, and_true] at hc
 subst hc
 exact ⟨l, hs, hl⟩
end Go.Proofs.YtfnanbadbmmicaaGreatDoor

namespace Go.Proofs.YtfnanbadbmmicaaGreatDoor
open Go.ChangeShapes Go.WideShapes Go.ChangeAt Go.RowKit Go.Deep

section
variable {H : Type} {enc : TypeId × Value → H} {W : World}
abbrev Trd (enc : TypeId × Value → H) (W : World) (fuel : Nat) (t : TypeId) (cs : List Value) (x : DataW H × List MemPlace) : Prop := DataW.trod enc Tryz.prog W 0 (fun _ => true) true fuel t cs = some x

/-- a slice of rows among what came in -/
theorem trod_rows_b {α : Type} [Inhabited α] (dec : α → List Value) (k : Nat) (e t : TypeId) (ht : Tryz.prog.underlying t = some (.slice e)) (hC : Tryz.prog.cellsOf e = k) (hk : 0 < k) (Q : α → Prop)
  (hd : ∀ n cs x, Trd enc W n e cs x → ∃ a, cs = dec a ∧ Q a) {fuel : Nat} {cs : List Value} {x : DataW H × List MemPlace} (h : Trd enc W fuel t cs x) :
  ∃ v l, cs = [v] ∧ SeesR W k dec v l ∧ (∀ a ∈ l, Q a) ∧ (0 < l.length → ∀ b, v.ownBlock = some b → b < W.heap.size) ∧ l.length < Rows.uptoBulk x.1 := by
 rcases open_slice ht h with ⟨hcs, hx⟩ | ⟨a, len, cap, m, n, D, Pl, hcs, _, hl, hm, hmm, hx, hi⟩
 ·exact ⟨_, [], hcs, SeesR.nil W, (fun a ha => by cases ha), (fun h => by simp at h), one_le_bulk x.1⟩
 ·simp only [if_true] at hmm
  subst hmm
  rw [hC] at hi
  have hi' : ∀ i, i < m → ∃ y : α, (∀ j u, (dec y)[j]? = some u → W.cell? (a.add (i * k + j)) = some u) ∧ (dec y).length = k ∧ Q y := by
   intro i hlt
   obtain ⟨cs', hc, ht'⟩ := hi i hlt
   obtain ⟨y, rfl, hq⟩ := hd _ _ _ ht'
   obtain ⟨_, hcl, hat⟩ := World.cells?_some hc
   refine ⟨y, fun j u hu => ?_, hcl, hq⟩
   have hj : j < k := by rw [← hcl]; exact (List.getElem?_eq_some_iff.1 hu).1
   rw [← Go.Deep.add_add, hat j hj, hu]
  obtain ⟨f, hf⟩ := choose_lt hi'
  refine ⟨_, (List.range len).map f, hcs, ⟨some a, m, by simp, by simpa using hl, hm, fun h => (by cases h), fun a' ha => ?_⟩, ?_, ?_, ?_⟩
  ·cases ha
   refine ⟨fun hc => ?_, fun j y hj i u hu => ?_⟩
   ·obtain ⟨h1, h2, _⟩ := hf 0 hc
    have h0 : (dec (f 0))[0]? = some ((dec (f 0))[0]'(by omega)) := List.getElem?_eq_getElem _
    have := h1 0 _ h0
    have hs := World.cell?_spot this
    simpa [Addr.add] using hs
   ·have hjl : j < len := by have := (List.getElem?_eq_some_iff.1 hj).1; simpa using this
    have : y = f j := by simp [hjl] at hj; exact hj.symm
    subst this
    exact (hf j (by omega)).1 i u hu
  ·intro y hy
   obtain ⟨j, hj, rfl⟩ := List.mem_map.1 hy
   exact (hf j (by have := List.mem_range.1 hj; omega)).2.2
  ·intro h0 b hb
   have hlen : 0 < len := by simpa using h0
   obtain ⟨h1, h2, _⟩ := hf 0 (by omega)
   have h0' : (dec (f 0))[0]? = some ((dec (f 0))[0]'(by omega)) := List.getElem?_eq_getElem _
   have hc := World.block_lt_of_cell? _ _ (h1 0 _ h0')
   simp [Value.ownBlock] at hb
   subst hb
   rwa [block_add] at hc
  ·subst hx
   have h1 := elems_bulk ((List.range len).map D) ((List.range (m - len)).map fun j => D (len + j))
   have h2 := length_bulk ((List.range len).map D)
   simp only [List.length_map, List.length_range] at h2 ⊢
   omega

theorem trod_rows {α : Type} [Inhabited α] (dec : α → List Value) (k : Nat) (e t : TypeId) (ht : Tryz.prog.underlying t = some (.slice e)) (hC : Tryz.prog.cellsOf e = k) (hk : 0 < k) (Q : α → Prop)
  (hd : ∀ n cs x, Trd enc W n e cs x → ∃ a, cs = dec a ∧ Q a) {fuel : Nat} {cs : List Value} {x : DataW H × List MemPlace} (h : Trd enc W fuel t cs x) :
  ∃ v l, cs = [v] ∧ SeesR W k dec v l ∧ (∀ a ∈ l, Q a) ∧ (0 < l.length → ∀ b, v.ownBlock = some b → b < W.heap.size) := by
 obtain ⟨v, l, h1, h2, h3, h4, _⟩ := trod_rows_b dec k e t ht hC hk Q hd h
 exact ⟨v, l, h1, h2, h3, h4⟩

/-- an int64, an int -/
theorem i64_range {z : Int} (h : (Lit.int .i64 z).wf = true) : -9223372036854775808 ≤ z ∧ z ≤ 9223372036854775807 := by
 simpa [Lit.wf, IntKind.min, IntKind.max, IntKind.signed, IntKind.bits] using h
theorem u64_range {z : Int} (h : (Lit.int .u64 z).wf = true) : 0 ≤ z ∧ z ≤ 18446744073709551615 := by
 simpa [Lit.wf, IntKind.min, IntKind.max, IntKind.signed, IntKind.bits] using h

theorem cells_value : Tryz.prog.cellsOf 100 = 4 := by kernel_rfl
theorem cells_int : Tryz.prog.cellsOf 3 = 1 := by kernel_rfl
theorem cells_i64 : Tryz.prog.cellsOf 2 = 1 := by kernel_rfl
theorem cells_u64 : Tryz.prog.cellsOf 34 = 1 := by kernel_rfl
theorem cells_string : Tryz.prog.cellsOf 9 = 1 := by kernel_rfl
theorem cells_bool : Tryz.prog.cellsOf 4 = 1 := by kernel_rfl
theorem cells_attr : Tryz.prog.cellsOf 102 = 5 := by kernel_rfl
theorem cells_attrs : Tryz.prog.cellsOf 35 = 1 := by kernel_rfl
theorem cells_event : Tryz.prog.cellsOf 37 = 2 := by kernel_rfl
theorem cells_item : Tryz.prog.cellsOf 39 = 4 := by kernel_rfl

theorem field_at {fs : Array Field} {xs : List (DataW H × List MemPlace)} {n : Nat} {cs : List Value}
  (hf : ∀ (i : Nat) (f : Field), fs[i]? = some f → DataW.trod enc Tryz.prog W 0 (fun _ => true) true n f.type ((cs.drop f.offset).take (Tryz.prog.cellsOf f.type)) = xs[i]?) (hl : xs.length = fs.size)
  (i : Nat) (t : TypeId) (off k : Nat) (f : Field) (h : fs[i]? = some f) (ht : f.type = t) (ho : f.offset = off) (hk : Tryz.prog.cellsOf t = k) : ∃ y, Trd enc W n t ((cs.drop off).take k) y := by
 subst ht ho hk
 have h1 := hf i f h
 have hi : i < xs.length := by rw [hl]; exact (Array.getElem?_eq_some_iff.1 h).1
 exact ⟨xs[i], h1.trans (List.getElem?_eq_getElem hi)⟩

set_option maxRecDepth 100000 in
theorem trod_value {n : Nat} {cs : List Value} {x : DataW H × List MemPlace} (h : Trd enc W n 100 cs x) :
  ∃ v : Val, cs = [.int .i64 v.kind, .int .i64 v.num, .string v.str, .bool v.is] ∧ (-9223372036854775808 ≤ v.num ∧ v.num ≤ 9223372036854775807) ∧ (-9223372036854775808 ≤ v.kind ∧ v.kind ≤ 9223372036854775807) ∧ v.str.size ≤ maxLen := by
 obtain ⟨xs, n', _, _, hlen, hl, hf⟩ := DataW.trod_struct Tryz.underlying100 h
 rw [cells_value] at hlen
 match cs, hlen with
 | [c0, c1, c2, c3], _ =>
  obtain ⟨y0, g0⟩ := field_at hf hl 0 3 0 1 _ rfl rfl rfl cells_int
  obtain ⟨y1, g1⟩ := field_at hf hl 1 2 1 1 _ rfl rfl rfl cells_i64
  obtain ⟨y2, g2⟩ := field_at hf hl 2 9 2 1 _ rfl rfl rfl cells_string
  obtain ⟨y3, g3⟩ := field_at hf hl 3 4 3 1 _ rfl rfl rfl cells_bool
  obtain ⟨z0, e0, _, w0⟩ := DataW.trod_int Tryz.underlying3 g0
  obtain ⟨z1, e1, _, w1⟩ := DataW.trod_int Tryz.underlying2 g1
  obtain ⟨z2, e2, _, w2⟩ := DataW.trod_string Tryz.underlying9 g2
  obtain ⟨z3, e3, _⟩ := DataW.trod_bool Tryz.underlying4 g3
  simp only [List.drop_zero, List.drop_succ_cons, List.take_succ_cons, List.take_zero, List.cons.injEq, and_true] at e0 e1 e2 e3
  subst e0 e1 e2 e3
  exact ⟨⟨z0, z1, z2, z3⟩, rfl, i64_range w1, i64_range w0, w2⟩

instance : Inhabited At := ⟨⟨⟨#[]⟩, ⟨0, 0, ⟨#[]⟩, false⟩⟩⟩
set_option maxRecDepth 100000 in
theorem trod_attr {n : Nat} {cs : List Value} {x : DataW H × List MemPlace} (h : Trd enc W n 102 cs x) :
  ∃ a : At, cs = a.cells ∧ (a.name.size ≤ 9223372036854775807 ∧ -9223372036854775808 ≤ a.val.num ∧ a.val.num ≤ 9223372036854775807) := by
 obtain ⟨xs, n', _, _, hlen, hl, hf⟩ := DataW.trod_struct Tryz.underlying102 h
 rw [cells_attr] at hlen
 match cs, hlen with
 | [c0, c1, c2, c3, c4], _ =>
  obtain ⟨y0, g0⟩ := field_at hf hl 0 9 0 1 _ rfl rfl rfl cells_string
  obtain ⟨y1, g1⟩ := field_at hf hl 1 100 1 4 _ rfl rfl rfl cells_value
  obtain ⟨z0, e0, _, w0⟩ := DataW.trod_string Tryz.underlying9 g0
  obtain ⟨v, e1, hv, _⟩ := trod_value g1
  simp only [List.drop_zero, List.drop_succ_cons, List.take_succ_cons, List.take_zero, List.cons.injEq, and_true] at e0 e1
  obtain ⟨rfl, rfl, rfl, rfl⟩ := e1
  subst e0
  exact ⟨⟨z0, v⟩, rfl, by unfold maxLen at w0; exact w0, hv⟩
theorem trod_attrs {n : Nat} {cs : List Value} {x : DataW H × List MemPlace} (h : Trd enc W n 35 cs x) :
  ∃ v l, cs = [v] ∧ SeesA W v l ∧ Fits l ∧ (0 < l.length → ∀ b, v.ownBlock = some b → b < W.heap.size) := by
 obtain ⟨v, l, h1, h2, h3, h4⟩ := trod_rows At.cells 5 102 35 Tryz.underlying35 cells_attr (by decide) _ (fun n cs x hh => trod_attr hh) h
 exact ⟨v, l, h1, h2, h3, h4⟩
set_option maxRecDepth 100000 in
theorem trod_event {n : Nat} {cs : List Value} {x : DataW H × List MemPlace} (h : Trd enc W n 37 cs x) :
  ∃ (key : ByteArray) (v : Value) (l : List At), cs = [.string key, v] ∧ SeesA W v l ∧ Fits l ∧ (0 < l.length → ∀ b, v.ownBlock = some b → b < W.heap.size) ∧ key.size ≤ maxLen := by
 obtain ⟨xs, n', _, _, hlen, hl, hf⟩ := DataW.trod_struct Tryz.underlying37 h
 rw [cells_event] at hlen
 match cs, hlen with
 | [c0, c1], _ =>
  obtain ⟨y0, g0⟩ := field_at hf hl 0 9 0 1 _ rfl rfl rfl cells_string
  obtain ⟨y1, g1⟩ := field_at hf hl 1 35 1 1 _ rfl rfl rfl cells_attrs
  obtain ⟨z0, e0, _, w0⟩ := DataW.trod_string Tryz.underlying9 g0
  obtain ⟨v, l, e1, h1, h2, h3⟩ := trod_attrs g1
  simp only [List.drop_zero, List.drop_succ_cons, List.take_succ_cons, List.take_zero, List.cons.injEq, and_true] at e0 e1
  subst e0 e1
  exact ⟨z0, _, l, rfl, h1, h2, h3, w0⟩
def Items (w : World) (lv : Value) (l : List It) : Prop := SeesR w 4 It.cells lv l ∧ ∀ x ∈ l, x.fine w
instance : Inhabited It := ⟨⟨0, 0, ⟨#[]⟩, .slice none 0 0, []⟩⟩
set_option maxRecDepth 100000 in
theorem trod_item {n : Nat} {cs : List Value} {x : DataW H × List MemPlace} (h : Trd enc W n 39 cs x) :
  ∃ a : It, cs = a.cells ∧ a.fine W := by
 obtain ⟨xs, n', _, _, hlen, hl, hf⟩ := DataW.trod_struct Tryz.underlying39 h
 rw [cells_item] at hlen
 match cs, hlen with
 | [c0, c1, c2, c3], _ =>
  obtain ⟨y0, g0⟩ := field_at hf hl 0 34 0 1 _ rfl rfl rfl cells_u64
  obtain ⟨y1, g1⟩ := field_at hf hl 1 34 1 1 _ rfl rfl rfl cells_u64
  obtain ⟨y2, g2⟩ := field_at hf hl 2 37 2 2 _ rfl rfl rfl cells_event
  obtain ⟨z0, e0, _, w0⟩ := DataW.trod_int Tryz.underlying34 g0
  obtain ⟨z1, e1, _, w1⟩ := DataW.trod_int Tryz.underlying34 g1
  obtain ⟨key, v, l, e2, h1, h2, h3, _⟩ := trod_event g2
  simp only [List.drop_zero, List.drop_succ_cons, List.take_succ_cons, List.take_zero, List.cons.injEq, and_true] at e0 e1 e2
  obtain ⟨rfl, rfl⟩ := e2
  subst e0 e1
  have r0 := u64_range w0
  have r1 := u64_range w1
  obtain ⟨a, rfl⟩ := Int.eq_ofNat_of_zero_le r0.1
  obtain ⟨b, rfl⟩ := Int.eq_ofNat_of_zero_le r1.1
  exact ⟨⟨a, b, key, _, l⟩, rfl, h1, h3, h2, by show a < _; omega, by show b < _; omega⟩
set_option maxRecDepth 100000 in
theorem trod_items {n : Nat} {cs : List Value} {x : DataW H × List MemPlace} (h : Trd enc W n 22 cs x) : ∃ v l, cs = [v] ∧ Items W v l := by
 obtain ⟨v, l, h1, h2, h3, _⟩ := trod_rows It.cells 4 39 22 Tryz.underlying22 cells_item (by decide) _ (fun n cs x hh => trod_item hh) h
 exact ⟨v, l, h1, h2, h3⟩
set_option maxRecDepth 100000 in
theorem read_items {base : Nat} {v : Value} {d : DataW H} {p : List MemPlace} (hv : Value.okWide Tryz.prog W .any base 22 v) (h : DataW.Trod enc Tryz.prog W 0 (fun _ => true) true 22 v d p) : ∃ l, Items W v l := by
 obtain ⟨a, len, cap, rfl⟩ := okWide_slice Tryz.underlying22 hv
 obtain ⟨fuel, hf⟩ := h
 obtain ⟨v, l, hc, hs⟩ := trod_items hf
 simp only [Value.cells, List.cons.injEq, and_true] at hc
 subst hc
 exact ⟨l, hs⟩
set_option maxRecDepth 100000 in
theorem read_item {base : Nat} {v : Value} {d : DataW H} {p : List MemPlace} (hv : Value.okWide Tryz.prog W .any base 39 v) (h : DataW.Trod enc Tryz.prog W 0 (fun _ => true) true 39 v d p) : ∃ x : It, v = .agg x.cells.toArray ∧ x.fine W := by
 obtain ⟨cs, rfl, hsz⟩ := okWide_struct Tryz.underlying39 hv
 obtain ⟨fuel, hf⟩ := h
 obtain ⟨x, hc, hx⟩ := trod_item hf
 refine ⟨x, ?_, hx⟩
 simp only [Value.cells] at hc
 rw [← hc]
theorem cells_items : Tryz.prog.cellsOf 22 = 1 := by kernel_rfl
instance : Inhabited Val := ⟨⟨0, 0, ⟨#[]⟩, false⟩⟩
instance : Inhabited Con := ⟨⟨⟨#[]⟩, 0, ⟨0, 0, ⟨#[]⟩, false⟩, .slice none 0 0, []⟩⟩
theorem field_at_mem {fs : Array Field} {xs : List (DataW H × List MemPlace)} {n : Nat} {cs : List Value}
  (hf : ∀ (i : Nat) (f : Field), fs[i]? = some f → DataW.trod enc Tryz.prog W 0 (fun _ => true) true n f.type ((cs.drop f.offset).take (Tryz.prog.cellsOf f.type)) = xs[i]?) (hl : xs.length = fs.size)
  (i : Nat) (t : TypeId) (off k : Nat) (f : Field) (h : fs[i]? = some f) (ht : f.type = t) (ho : f.offset = off) (hk : Tryz.prog.cellsOf t = k) : ∃ y, Trd enc W n t ((cs.drop off).take k) y ∧ y ∈ xs := by
 subst ht ho hk
 have h1 := hf i f h
 have hi : i < xs.length := by rw [hl]; exact (Array.getElem?_eq_some_iff.1 h).1
 exact ⟨xs[i], h1.trans (List.getElem?_eq_getElem hi), List.getElem_mem hi⟩
theorem part_bulk_agg {y : DataW H × List MemPlace} {xs : List (DataW H × List MemPlace)} (h : y ∈ xs) : Rows.uptoBulk y.1 ≤ Rows.uptoBulk (.agg (xs.map (·.1))) := by
 have h1 := part_bulk (d := y.1) (l := xs.map (·.1)) (List.mem_map_of_mem h)
 simp only [Rows.uptoBulk]
 omega
set_option maxRecDepth 100000 in
theorem read_event {base : Nat} {v : Value} {d : DataW H} {p : List MemPlace} (hv : Value.okWide Tryz.prog W .any base 37 v) (h : DataW.Trod enc Tryz.prog W 0 (fun _ => true) true 37 v d p) :
  ∃ (key : ByteArray) (a : Value) (l : List At), v = .agg #[.string key, a] ∧ SeesA W a l ∧ Fits l ∧ (0 < l.length → ∀ b, a.ownBlock = some b → b < W.heap.size) := by
 obtain ⟨cs, rfl, hsz⟩ := okWide_struct Tryz.underlying37 hv
 obtain ⟨fuel, hf⟩ := h
 obtain ⟨key, a, l, hc, h1, h2, h3, _⟩ := trod_event hf
 refine ⟨key, a, l, ?_, h1, h2, h3⟩
 simp only [Value.cells] at hc
 obtain ⟨cs⟩ := cs
 simp only at hc
 rw [hc]
set_option maxRecDepth 100000 in
theorem read_u64 {base : Nat} {v : Value} {d : DataW H} {p : List MemPlace} (hv : Value.okWide Tryz.prog W .any base 34 v) (h : DataW.Trod enc Tryz.prog W 0 (fun _ => true) true 34 v d p) : ∃ n : Nat, v = .int .u64 n ∧ n < 18446744073709551616 := by
 obtain ⟨z, rfl, rfl, rfl, wn⟩ := open_int Tryz.underlying34 hv h
 have hr := u64_range wn
 obtain ⟨m, rfl⟩ := Int.eq_ofNat_of_zero_le hr.1
 exact ⟨m, rfl, by omega⟩
end
end Go.Proofs.YtfnanbadbmmicaaGreatDoor

namespace Go.Proofs.YtfnanbadbmmicaaGreatDoor
open Go.Shelf Go.RowKit Go.Maps Go.Sort
def shTrim_ren : Go.Shelf.Ren := ⟨fun | 160 => 37 | 232 => 50 | 231 => 49 | 227 => 51 | 234 => 53 | 233 => 52 | 236 => 55 | 235 => 54 | 228 => 75 | 271 => 78 | 151 => 77 | 197 => 76 | 120 => 103 | 152 => 102 | 260 => 101 | 137 => 120 | 119 => 121 | 224 => 122 | 225 => 123 | 217 => 131 | 266 => 133 | n => n, fun | 9 => 9 | 4 => 4 | 3 => 3 | 5 => 5 | 117 => 106 | 116 => 105 | 0 => 0 | 124 => 109 | 21 => 21 | 105 => 126 | 46 => 85 | 119 => 169 | 139 => 172 | 138 => 171 | n => n, fun | 3 => 0 | 4 => 1 | n => n⟩
theorem shTrim : Go.Proofs.Lays.n160 Tryz.prog shTrim_ren := {
  mixed := by kernel_rfl
  f119 := Tryz.func121.trans (congrArg some (by kernel_rfl))
  f120 := Tryz.func103.trans (congrArg some (by kernel_rfl))
  f137 := Tryz.func120.trans (congrArg some (by kernel_rfl))
  f151 := Tryz.func77.trans (congrArg some (by kernel_rfl))
  f152 := Tryz.func102.trans (congrArg some (by kernel_rfl))
  f160 := Tryz.func37.trans (congrArg some (by kernel_rfl))
  f197 := Tryz.func76.trans (congrArg some (by kernel_rfl))
  f217 := Tryz.func131.trans (congrArg some (by kernel_rfl))
  f224 := Tryz.func122.trans (congrArg some (by kernel_rfl))
  f225 := Tryz.func123.trans (congrArg some (by kernel_rfl))
  f227 := Tryz.func51.trans (congrArg some (by kernel_rfl))
  f228 := Tryz.func75.trans (congrArg some (by kernel_rfl))
  f231 := Tryz.func49.trans (congrArg some (by kernel_rfl))
  f232 := Tryz.func50.trans (congrArg some (by kernel_rfl))
  f233 := Tryz.func52.trans (congrArg some (by kernel_rfl))
  f234 := Tryz.func53.trans (congrArg some (by kernel_rfl))
  f235 := Tryz.func54.trans (congrArg some (by kernel_rfl))
  f236 := Tryz.func55.trans (congrArg some (by kernel_rfl))
  f260 := Tryz.func101.trans (congrArg some (by kernel_rfl))
  f266 := Tryz.func133.trans (congrArg some (by kernel_rfl))
  f271 := Tryz.func78.trans (congrArg some (by kernel_rfl))
  t0 := Tryz.underlying0
  a0 := Tryz.isAgg0
  z0 := Tryz.sizeOf0
  v0 := Tryz.zeroValue0
  t3 := Tryz.underlying3
  a3 := Tryz.isAgg3
  z3 := Tryz.sizeOf3
  v3 := Tryz.zeroValue3
  t4 := Tryz.underlying4
  a4 := Tryz.isAgg4
  z4 := Tryz.sizeOf4
  v4 := Tryz.zeroValue4
  t5 := Tryz.underlying5
  a5 := Tryz.isAgg5
  z5 := Tryz.sizeOf5
  v5 := Tryz.zeroValue5
  t9 := Tryz.underlying9
  a9 := Tryz.isAgg9
  z9 := Tryz.sizeOf9
  v9 := Tryz.zeroValue9
  t21 := Tryz.underlying21
  a21 := Tryz.isAgg21
  z21 := Tryz.sizeOf21
  v21 := Tryz.zeroValue21
  t46 := Tryz.underlying85
  a46 := Tryz.isAgg85
  z46 := Tryz.sizeOf85
  v46 := Tryz.zeroValue85
  t105 := Tryz.underlying126
  a105 := Tryz.isAgg126
  z105 := Tryz.sizeOf126
  v105 := Tryz.zeroValue126
  t116 := Tryz.underlying105
  a116 := Tryz.isAgg105
  z116 := Tryz.sizeOf105
  t117 := Tryz.underlying106
  a117 := Tryz.isAgg106
  z117 := Tryz.sizeOf106
  v117 := Tryz.zeroValue106
  t119 := Tryz.underlying169
  a119 := Tryz.isAgg169
  z119 := Tryz.sizeOf169
  t124 := Tryz.underlying109
  a124 := Tryz.isAgg109
  z124 := Tryz.sizeOf109
  v124 := Tryz.zeroValue109
  t138 := Tryz.underlying171
  a138 := Tryz.isAgg171
  z138 := Tryz.sizeOf171
  v138 := Tryz.zeroValue171
  t139 := Tryz.underlying172
  a139 := Tryz.isAgg172
  z139 := Tryz.sizeOf172
  v139 := Tryz.zeroValue172
  g3 := by kernel_rfl
  g4 := by kernel_rfl }
def shKeys_ren : Go.Shelf.Ren := ⟨fun | 7 => 45 | 10 => 64 | n => n, fun | 23 => 47 | 26 => 9 | 3 => 54 | 28 => 88 | 0 => 0 | 27 => 87 | 33 => 53 | 4 => 4 | n => n, fun | n => n⟩
theorem shKeys : Go.Proofs.SlLaysZ.n7 Tryz.prog shKeys_ren := {
  mixed := by kernel_rfl
  f7 := ⟨Tryz.f45.name, by decide, Tryz.func45.trans (congrArg some (by kernel_rfl))⟩
  f10 := ⟨Tryz.f64.name, by decide, Tryz.func64.trans (congrArg some (by kernel_rfl))⟩
  t0 := Tryz.underlying0
  a0 := Tryz.isAgg0
  z0 := Tryz.sizeOf0
  v0 := Tryz.zeroValue0
  t4 := Tryz.underlying4
  a4 := Tryz.isAgg4
  z4 := Tryz.sizeOf4
  v4 := Tryz.zeroValue4
  t23 := Tryz.underlying47
  a23 := Tryz.isAgg47
  z23 := Tryz.sizeOf47
  v23 := Tryz.zeroValue47
  t26 := Tryz.underlying9
  a26 := Tryz.isAgg9
  z26 := Tryz.sizeOf9
  v26 := Tryz.zeroValue9
  t27 := Tryz.underlying87
  a27 := Tryz.isAgg87
  z27 := Tryz.sizeOf87
  v27 := Tryz.zeroValue87
  t28 := Tryz.underlying88
  a28 := Tryz.isAgg88
  z28 := Tryz.sizeOf88
  v28 := Tryz.zeroValue88
  t33 := Tryz.underlying53
  a33 := Tryz.isAgg53
  z33 := Tryz.sizeOf53
  v33 := Tryz.zeroValue53 }
def shSorted_ren : Go.Shelf.Ren := ⟨fun | 6 => 44 | 8 => 62 | 9 => 63 | 11 => 91 | 13 => 93 | 12 => 92 | 23 => 115 | 24 => 116 | 14 => 106 | 15 => 107 | 16 => 108 | 17 => 109 | 18 => 110 | 19 => 111 | 20 => 112 | 21 => 113 | 22 => 114 | 25 => 124 | 26 => 125 | 27 => 126 | 28 => 127 | 29 => 128 | 30 => 129 | 31 => 132 | n => n, fun | 26 => 9 | 28 => 88 | 24 => 67 | 0 => 0 | 3 => 3 | 37 => 85 | 48 => 64 | 50 => 34 | 4 => 4 | 40 => 155 | 39 => 154 | 45 => 160 | 5 => 5 | 9 => 9 | 51 => 177 | 55 => 181 | 57 => 184 | 58 => 185 | 33 => 53 | n => n, fun | n => n⟩
theorem shSorted : Go.Proofs.SlLaysZ.n6 Tryz.prog shSorted_ren := {
  mixed := by kernel_rfl
  f6 := ⟨Tryz.f44.name, by decide, Tryz.func44.trans (congrArg some (by kernel_rfl))⟩
  f8 := ⟨Tryz.f62.name, by decide, Tryz.func62.trans (congrArg some (by kernel_rfl))⟩
  f11 := ⟨Tryz.f91.name, by decide, Tryz.func91.trans (congrArg some (by kernel_rfl))⟩
  t0 := Tryz.underlying0
  a0 := Tryz.isAgg0
  z0 := Tryz.sizeOf0
  v0 := Tryz.zeroValue0
  t24 := Tryz.underlying67
  a24 := Tryz.isAgg67
  z24 := Tryz.sizeOf67
  v24 := Tryz.zeroValue67
  t26 := Tryz.underlying9
  a26 := Tryz.isAgg9
  z26 := Tryz.sizeOf9
  v26 := Tryz.zeroValue9
  t28 := Tryz.underlying88
  a28 := Tryz.isAgg88
  z28 := Tryz.sizeOf88
  v28 := Tryz.zeroValue88
  i26 := by kernel_rfl }
def shSort_ren : Go.Shelf.Ren := ⟨fun | 6 => 63 | 8 => 93 | 9 => 92 | 19 => 115 | 20 => 116 | 21 => 106 | 22 => 107 | 23 => 108 | 24 => 109 | 25 => 110 | 26 => 111 | 27 => 112 | 28 => 113 | 29 => 114 | 36 => 124 | 31 => 125 | 32 => 126 | 37 => 127 | 38 => 128 | 39 => 129 | 41 => 132 | n => n, fun | 27 => 67 | 29 => 9 | 3 => 3 | 32 => 85 | 26 => 67 | 0 => 0 | 44 => 64 | 46 => 34 | 4 => 4 | 36 => 155 | 35 => 154 | 41 => 160 | 5 => 5 | 9 => 9 | 53 => 177 | 57 => 181 | 63 => 184 | 64 => 185 | n => n, fun | n => n⟩
theorem shSort : Go.Proofs.SlLaysM.n6 Tryz.prog shSort_ren := {
  mixed := by kernel_rfl
  f6 := ⟨Tryz.f63.name, by decide, Tryz.func63.trans (congrArg some (by kernel_rfl))⟩
  f8 := Tryz.func93.trans (congrArg some (by kernel_rfl))
  f9 := ⟨Tryz.f92.name, by decide, Tryz.func92.trans (congrArg some (by kernel_rfl))⟩
  f19 := Tryz.func115.trans (congrArg some (by kernel_rfl))
  f20 := Tryz.func116.trans (congrArg some (by kernel_rfl))
  f21 := ⟨Tryz.f106.name, by decide, Tryz.func106.trans (congrArg some (by kernel_rfl))⟩
  f22 := ⟨Tryz.f107.name, by decide, Tryz.func107.trans (congrArg some (by kernel_rfl))⟩
  f23 := ⟨Tryz.f108.name, by decide, Tryz.func108.trans (congrArg some (by kernel_rfl))⟩
  f24 := ⟨Tryz.f109.name, by decide, Tryz.func109.trans (congrArg some (by kernel_rfl))⟩
  f25 := ⟨Tryz.f110.name, by decide, Tryz.func110.trans (congrArg some (by kernel_rfl))⟩
  f26 := ⟨Tryz.f111.name, by decide, Tryz.func111.trans (congrArg some (by kernel_rfl))⟩
  f27 := ⟨Tryz.f112.name, by decide, Tryz.func112.trans (congrArg some (by kernel_rfl))⟩
  f28 := ⟨Tryz.f113.name, by decide, Tryz.func113.trans (congrArg some (by kernel_rfl))⟩
  f29 := ⟨Tryz.f114.name, by decide, Tryz.func114.trans (congrArg some (by kernel_rfl))⟩
  f31 := Tryz.func125.trans (congrArg some (by kernel_rfl))
  f32 := Tryz.func126.trans (congrArg some (by kernel_rfl))
  f36 := ⟨Tryz.f124.name, by decide, Tryz.func124.trans (congrArg some (by kernel_rfl))⟩
  f37 := ⟨Tryz.f127.name, by decide, Tryz.func127.trans (congrArg some (by kernel_rfl))⟩
  f38 := ⟨Tryz.f128.name, by decide, Tryz.func128.trans (congrArg some (by kernel_rfl))⟩
  f39 := ⟨Tryz.f129.name, by decide, Tryz.func129.trans (congrArg some (by kernel_rfl))⟩
  f41 := ⟨Tryz.f132.name, by decide, Tryz.func132.trans (congrArg some (by kernel_rfl))⟩
  t0 := Tryz.underlying0
  a0 := Tryz.isAgg0
  z0 := Tryz.sizeOf0
  v0 := Tryz.zeroValue0
  t3 := Tryz.underlying3
  a3 := Tryz.isAgg3
  z3 := Tryz.sizeOf3
  v3 := Tryz.zeroValue3
  t4 := Tryz.underlying4
  a4 := Tryz.isAgg4
  z4 := Tryz.sizeOf4
  v4 := Tryz.zeroValue4
  t5 := Tryz.underlying5
  a5 := Tryz.isAgg5
  z5 := Tryz.sizeOf5
  v5 := Tryz.zeroValue5
  t9 := Tryz.underlying9
  a9 := Tryz.isAgg9
  z9 := Tryz.sizeOf9
  v9 := Tryz.zeroValue9
  t26 := Tryz.underlying67
  a26 := Tryz.isAgg67
  z26 := Tryz.sizeOf67
  v26 := Tryz.zeroValue67
  t27 := Tryz.underlying67
  a27 := Tryz.isAgg67
  z27 := Tryz.sizeOf67
  v27 := Tryz.zeroValue67
  t29 := Tryz.underlying9
  a29 := Tryz.isAgg9
  z29 := Tryz.sizeOf9
  v29 := Tryz.zeroValue9
  t32 := Tryz.underlying85
  a32 := Tryz.isAgg85
  z32 := Tryz.sizeOf85
  v32 := Tryz.zeroValue85
  t35 := Tryz.underlying154
  a35 := Tryz.isAgg154
  z35 := Tryz.sizeOf154
  v35 := Tryz.zeroValue154
  t36 := Tryz.underlying155
  a36 := Tryz.isAgg155
  z36 := Tryz.sizeOf155
  v36 := Tryz.zeroValue155
  t41 := Tryz.underlying160
  a41 := Tryz.isAgg160
  z41 := Tryz.sizeOf160
  v41 := Tryz.zeroValue160
  t44 := Tryz.underlying64
  a44 := Tryz.isAgg64
  z44 := Tryz.sizeOf64
  v44 := Tryz.zeroValue64
  t46 := Tryz.underlying34
  a46 := Tryz.isAgg34
  z46 := Tryz.sizeOf34
  v46 := Tryz.zeroValue34
  t53 := Tryz.underlying177
  a53 := Tryz.isAgg177
  z53 := Tryz.sizeOf177
  v53 := Tryz.zeroValue177
  t57 := Tryz.underlying181
  a57 := Tryz.isAgg181
  z57 := Tryz.sizeOf181
  v57 := Tryz.zeroValue181
  t63 := Tryz.underlying184
  a63 := Tryz.isAgg184
  z63 := Tryz.sizeOf184
  v63 := Tryz.zeroValue184
  t64 := Tryz.underlying185
  a64 := Tryz.isAgg185
  z64 := Tryz.sizeOf185
  v64 := Tryz.zeroValue185 }
theorem sh_sorts (m : Nat) : AnyZ.SortsIn Tryz.prog shSorted_ren Fence.wide m :=
  ⟨fun blk off cap ss W hH hblk hsz => callsIn_wide.2 (AnyM.slices_Sort_string shSort blk off cap ss W hH hblk hsz),
   fun p cap W => callsIn_wide.2 (AnyM.slices_Sort_string_none shSort p cap W)⟩

theorem sh_maps_keys (mb : Option Nat) (W : World) : CallsIn Fence.wide 5 Tryz.prog 45 #[.map mb] W fun e w' => e = .returned (.func (.func 64) #[] #[.pointer (some ⟨W.heap.size, 0, none⟩)]) ∧ w' = W.alloc (.cells #[.map mb] 47) :=
  AnyZ.keys_in shKeys Fence.wide 5 trivial rfl mb W

set_option maxHeartbeats 1000000 in
theorem sh_sorted_keys {H : Type} (b nn : Nat) (D0 : DataW H) (R : Value → Option (DataW H × List MemPlace)) (w : World) (hown : w.ownsMap Tryz.prog 9 R b nn D0) (hmax : Maps.size D0 ≤ maxLen) (hbytes : Maps.size D0 * 16 ≤ 140737488355328) :
    CallsIn Fence.wide 5 Tryz.prog 44 #[.func (.func 64) #[] #[.pointer (some ⟨w.heap.size, 0, none⟩)]] (w.alloc (.cells #[.map (some b)] 47)) fun e w' => ∃ (v : Value) (ss : List (List UInt8)), e = .returned v ∧ ss.Perm (strKeys D0) ∧
      w'.ownsRow (w.alloc (.cells #[.map (some b)] 47)).heap.size 9 1 v ss.length ((ss.mergeSort (fun x y => decide (x ≤ y))).map encStr) ∧ (v = .slice none 0 0 ↔ ss = []) ∧ Below (w.alloc (.cells #[.map (some b)] 47)).heap.size (w.alloc (.cells #[.map (some b)] 47)) w' := by
  have hbl := hown.lt
  have hseq : SeqGives Fence.wide 2 Tryz.prog 64 #[.pointer (some ⟨w.heap.size, 0, none⟩)] encStr (fun ss => ss.Perm (strKeys D0)) (Maps.size D0) (w.alloc (.cells #[.map (some b)] 47)) :=
    AnyZ.keys_gives (ρ := shKeys_ren) { shKeys with } Fence.wide _ trivial rfl (by omega) w.heap.size b nn D0 _ (by simp) (by simp) (by
      obtain ⟨es, clock, hb, Ft, hs, hD⟩ := hown
      exact ⟨es, clock, (Below.heap_alloc _ _ b hbl).trans hb, Ft, hs, hD⟩)
  exact AnyZ.sorted_in shSorted Fence.wide 5 trivial trivial trivial trivial rfl (by omega) (sh_sorts _) (enters_of Tryz.func63 (by kernel_rfl) rfl) 64 #[.pointer (some ⟨w.heap.size, 0, none⟩)] trivial (enters_of Tryz.func64 (by kernel_rfl) rfl) _ _ hmax hbytes _ hseq

end Go.Proofs.YtfnanbadbmmicaaGreatDoor

namespace Go.Proofs.YtfnanbadbmmicaaGreatDoor
open Go.RowKit
attribute [-go_sem] loadVar storeVar

/-- what one bit that falls out adds -/
def stp (z : Nat) : Nat := (z / 2) ^^^ (2197175160 * (z &&& 1) % 4294967296)
theorem stp_lt {z : Nat} (h : z < 4294967296) : stp z < 4294967296 := by
 unfold stp
 exact Nat.xor_lt_two_pow (n := 32) (by omega) (by omega)
theorem stp_eq {z : Nat} (h : z < 4294967296) : bits .xor .u32 ((z : Int) / 2) (2197175160 * bits .and .u32 (z : Int) 1 % 4294967296) = (stp z : Int) := by
 have h1 := u32_and_nat z 1 h (by omega)
 rw [show ((1 : Nat) : Int) = 1 from rfl] at h1
 rw [h1, show (2197175160 : Int) = ((2197175160 : Nat) : Int) from rfl, show (4294967296 : Int) = ((4294967296 : Nat) : Int) from rfl, show (2 : Int) = ((2 : Nat) : Int) from rfl, ← Int.natCast_mul, ← Int.natCast_emod, ← Int.natCast_ediv]
 exact u32_xor_nat _ _ (by omega) (by omega)
def stps : Nat → Nat → Nat
 | 0, z => z
 | m + 1, z => stp (stps m z)
theorem stps_lt {z : Nat} (h : z < 4294967296) : ∀ m, stps m z < 4294967296
 | 0 => h
 | m + 1 => stp_lt (stps_lt h m)
/-- what four bits that fall out add -/
def tab (k : Nat) : Nat := stps 4 k
theorem tab_lt {k : Nat} (h : k < 16) : tab k < 4294967296 := stps_lt (by omega) 4
/-- the first k of the table -/
def TabTo (k : Nat) (cs : Array Value) : Prop := cs.size = 16 ∧ ∀ j, j < 16 → cs[j]? = some (.int .u32 ((if j < k then tab j else 0 : Nat) : Int))
theorem TabTo.zero : TabTo 0 (Array.replicate 16 (.int .u32 0)) := ⟨by simp, fun j hj => by rw [Array.getElem?_replicate, if_pos hj, if_neg (by omega)]; rfl⟩
theorem TabTo.succ {k : Nat} {cs : Array Value} (h : TabTo k cs) (hk : k < 16) : TabTo (k + 1) (cs.setIfInBounds k (.int .u32 (tab k : Int))) := by
 refine ⟨by simp [h.1], fun j hj => ?_⟩
 rw [Array.getElem?_setIfInBounds]
 by_cases e : k = j
 ·subst e
  rw [if_pos rfl, if_pos (by rw [h.1]; exact hk), if_pos (by omega)]
 ·rw [if_neg e, h.2 j hj]
  by_cases h1 : j < k
  ·rw [if_pos h1, if_pos (by omega)]
  ·rw [if_neg h1, if_neg (by omega)]
theorem TabTo.one {k : Nat} {cs : Array Value} (h : TabTo k cs) : cs.all (·.oneCell') = true := by
 rw [Array.all_eq_true]
 intro i hi
 have h1 := h.2 i (by rw [← h.1]; exact hi)
 rw [Array.getElem?_eq_getElem hi] at h1
 simp only [Option.some.injEq] at h1
 rw [h1]
 rfl
theorem Keeps.setRow {S : Nat → Prop} {a w : World} (h : Keeps S a w) {g : Nat} (hp : g < a.heap.size → S g) (cs : Array Value) : Keeps S a (w.setRow g cs) :=
 ⟨h.os, h.tape, h.output, by simpa using h.size, fun k hk hs => (setRow_other w g k cs (fun e => hs (by subst e; exact hp hk))).trans (h.block k hk hs)⟩

set_option maxRecDepth 100000 in
set_option maxHeartbeats 2000000 in
theorem steps_any (w : World) : Calls Tryz.prog 89 #[] w fun e w' => (∃ cs : Array Value, e = .returned (.agg cs) ∧ TabTo 16 cs) ∧ Old w w' := by
 obtain ⟨W0, hW0⟩ : ∃ W0, (w.alloc (.cells (Array.replicate 16 (.int .u32 0)) 137)).alloc (.cells (Array.replicate 16 (.int .u32 0)) 137) = W0 := ⟨_, rfl⟩
 have k0 : Old w W0 := by rw [← hW0]; exact ((Keeps.refl _ _).alloc _).alloc _
 have b0 : W0.heap[w.heap.size]? = some (.cells (Array.replicate 16 (.int .u32 0)) 137 (0, 0)) := by rw [← hW0, Below.heap_alloc _ _ _ (by simp)]; exact heap_alloc_new _ _
 have b1 : W0.heap[w.heap.size + 1]? = some (.cells (Array.replicate 16 (.int .u32 0)) 137 (0, 0)) := by rw [← hW0]; have := heap_alloc_new (w.alloc (.cells (Array.replicate 16 (.int .u32 0)) 137)) (.cells (Array.replicate 16 (.int .u32 0)) 137); rwa [World.size_alloc] at this
 have G := Lib.hid (And.intro k0 (And.intro b0 b1))
 clear k0 b0 b1
 simp only [Array.replicate_succ, Array.replicate_zero, List.push_toArray, List.nil_append, List.cons_append] at hW0
 have ld : ∀ a W, (loadVar 64 a).run Tryz.prog W = (load a).run Tryz.prog W := fun _ _ => by kernel_rfl
 have sd : ∀ a k z W, (storeVar 64 a (.int k z)).run Tryz.prog W = (store a (.int k z)).run Tryz.prog W := fun _ _ _ _ => by kernel_rfl
 go_enter Tryz.func89, Tryz.ntmps89
 go_wp2_with fail
 try rw [hW0]
 go_loopw [5] (fun v5 wr => ∃ k : Nat, k ≤ 16 ∧ v5 = .int .i64 k ∧ ∃ cs : Array Value, TabTo k cs ∧ wr.heap[w.heap.size + 1]? = some (.cells cs 137 (0, 0)) ∧ wr.heap[w.heap.size]? = some (.cells (Array.replicate 16 (.int .u32 0)) 137 (0, 0)) ∧ Old w wr) (fun v5 _ => 16 - (intOf v5).toNat)
 case atStart => exact ⟨0, by omega, rfl, _, TabTo.zero, G.out.2.2, G.out.2.1, G.out.1⟩
 case round =>
  obtain ⟨k, hk, rfl, cs, hcs, hb1, hb0, ho⟩ := hrel
  by_cases hlt : k < 16
  ·have hc : wr.cell? ⟨w.heap.size + 1, k, none⟩ = some (.int .u32 0) := by
    rw [cell_of_row wr _ k cs _ _ hb1, hcs.2 k hlt, if_neg (by omega)]; rfl
   have hf : wr.frozen? ⟨w.heap.size + 1, k, none⟩ = false := by simp [World.frozen?, hb1]
   have HB := Lib.hid (And.intro hb1 (And.intro hb0 (And.intro ho hcs)))
   clear hb1 hb0 ho hcs
   go_wp2_with fail
   go_loop [3, 4, 10] (fun s _ c => ∃ m : Nat, m ≤ 4 ∧ c = .int .i64 m ∧ ∃ z : Nat, z < 4294967296 ∧ s = .int .u32 z ∧ Hid (z = stps m k)) (fun _ _ c => 4 - (intOf c).toNat)
   case atStart => exact ⟨0, by omega, rfl, k, by omega, rfl, Lib.hid rfl⟩
   case round =>
    obtain ⟨m, hm, rfl, z, hz, rfl, hzm⟩ := hrel
    by_cases hlm : m < 4
    ·go_wp2_with fail
     go_round
     case rel => exact ⟨m + 1, by omega, by go_num, stp z, stp_lt hz, by rw [stp_eq hz], Lib.hid (by rw [hzm.out]; rfl)⟩
     case measure => simp [intOf]; omega
    ·go_wp2_with fail
     go_roundw
     case rel =>
      obtain rfl : m = 4 := by omega
      have hz4 : z = tab k := hzm.out
      subst hz4
      refine ⟨k + 1, by omega, by go_num, _, HB.out.2.2.2.succ hlt, heap_setCell_same _ _ _ _ _ _ HB.out.1, ?_, HB.out.2.2.1.setCell (p := ⟨w.heap.size + 1, k, none⟩) (fun h => by simp at h; omega) _⟩
      exact (Below.heap_setCell _ _ _ _ (by simp)).trans HB.out.2.1
     case measure => simp [intOf]; omega
  ·obtain rfl : k = 16 := by omega
   have hi : (Tryz.prog.info? 137).map (·.size) = some cs.size := by rw [hcs.1]; kernel_rfl
   have l1 := run_loadVar_row wr (w.heap.size + 1) 137 137 cs (0, 0) _ hb1 Tryz.underlying137 rfl hi
   have s1 := run_storeVar_row wr w.heap.size 137 137 _ cs hb0 hi (by rw [hcs.1]; simp) hcs.one
   have HS := Lib.hid (setRow_heap wr w.heap.size _ cs _ _ hb0)
   have HO := Lib.hid (And.intro (And.intro hi hcs) (ho.setRow (g := w.heap.size) (fun h => by omega) cs))
   clear hb1 hb0 ho hcs hi
   go_wp2_with fail
   exact bodyPost_ret (results_cell_row rfl _ _ w.heap.size 137 cs (0, 0) _ rfl HS.out Tryz.underlying137 rfl HO.out.1.1) rfl ⟨⟨cs, rfl, HO.out.1.2⟩, HO.out.2⟩
end Go.Proofs.YtfnanbadbmmicaaGreatDoor
