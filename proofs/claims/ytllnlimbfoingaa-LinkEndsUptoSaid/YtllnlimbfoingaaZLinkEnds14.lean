/- DERIVED. Chapter 20: how a packet of the document reads. · DERIVED. Chapter 20: how a slice of rows among the arguments reads. · DERIVED. Chapter 20: how lists of steps among the arguments read; LinkOrder, from how its argument reads. · DERIVED. Chapter 20: LinkEnds, from how its argument reads. · The statement LinkEnds, second form: for every input of bulk at most 1048576 the law returns true, and the arguments read as they did. -/
import Derived.Test.YtllnlimbfoingaaZLinkEnds10
import Derived.Test.YtllnlimbfoingaaZLinkEnds13
import Derived.Deep.Slices
import Derived.Deep.Fields
import Derived.Test.YtllnlimbfoingaaZLinkEnds08
import Derived.Test.YtllnlimbfoingaaZLinkEnds09
import Derived.Test.YtllnlimbfoingaaRows
import Derived.ProofKit
import Derived.OpenShut
import Derived.JoinedCond
import Derived.ChangeOld
namespace Go.Proofs.Ytllnlimbfoingaa
open Go.ChangeShapes Go.WideShapes Go.ChangeAt Go.RowKit Go.Deep
section
variable {H : Type} {enc : TypeId × Value → H} {W : World}
theorem cells_pk20 : Try.prog.cellsOf 34 = 5 := by kernel_rfl
theorem cells_u64' : Try.prog.cellsOf 22 = 1 := by kernel_rfl
theorem cells_bs : Try.prog.cellsOf 32 = 1 := by kernel_rfl
theorem u64_range' {z : Int} (h : (Lit.int .u64 z).wf = true) : 0 ≤ z ∧ z ≤ 18446744073709551615 := by
 simpa [Lit.wf, IntKind.min, IntKind.max, IntKind.signed, IntKind.bits] using h
theorem field_at' {fs : Array Field} {xs : List (DataW H × List MemPlace)} {n : Nat} {cs : List Value}
  (hf : ∀ (i : Nat) (f : Field), fs[i]? = some f → DataW.trod enc Try.prog W 0 (fun _ => true) true n f.type ((cs.drop f.offset).take (Try.prog.cellsOf f.type)) = xs[i]?) (hl : xs.length = fs.size)
  (i : Nat) (t : TypeId) (off k : Nat) (f : Field) (h : fs[i]? = some f) (ht : f.type = t) (ho : f.offset = off) (hk : Try.prog.cellsOf t = k) : ∃ y, y ∈ xs ∧ DataW.trod enc Try.prog W 0 (fun _ => true) true n t ((cs.drop off).take k) = some y := by
 subst ht ho hk
 have h1 := hf i f h
 have hi : i < xs.length := by rw [hl]; exact (Array.getElem?_eq_some_iff.1 h).1
 exact ⟨xs[i], List.getElem_mem hi, h1.trans (List.getElem?_eq_getElem hi)⟩
set_option maxRecDepth 100000 in
theorem read_pk {base : Nat} {v : Value} {d : DataW H} {p : List MemPlace} (hv : Value.okWide Try.prog W .any base 34 v) (h : DataW.Trod enc Try.prog W 0 (fun _ => true) true 34 v d p) :
  ∃ x : Pv, v = .agg x.cells.toArray ∧ x.src < 18446744073709551616 ∧ x.dst < 18446744073709551616 ∧ x.seq < 18446744073709551616 ∧ x.ack < 18446744073709551616 ∧ x.d.length < Rows.uptoBulk d ∧ Sees W x.v x.d := by
 obtain ⟨cs, rfl, hsz⟩ := okWide_struct Try.underlying34 hv
 obtain ⟨fuel, hf'⟩ := h
 obtain ⟨xs, n', q1, q2, hlen, hl, hf⟩ := DataW.trod_struct Try.underlying34 hf'
 obtain ⟨hd, -⟩ := Prod.mk.inj q2
 obtain ⟨l⟩ := cs
 rw [cells_pk20] at hlen
 simp only [Value.cells] at hlen hf
 match l, hlen with
 | [c0, c1, c2, c3, c4], _ =>
  obtain ⟨y0, m0, g0⟩ := field_at' hf hl 0 22 0 1 _ rfl rfl rfl cells_u64'
  obtain ⟨y1, m1, g1⟩ := field_at' hf hl 1 22 1 1 _ rfl rfl rfl cells_u64'
  obtain ⟨y2, m2, g2⟩ := field_at' hf hl 2 22 2 1 _ rfl rfl rfl cells_u64'
  obtain ⟨y3, m3, g3⟩ := field_at' hf hl 3 22 3 1 _ rfl rfl rfl cells_u64'
  obtain ⟨y4, m4, g4⟩ := field_at' hf hl 4 32 4 1 _ rfl rfl rfl cells_bs
  obtain ⟨z0, e0, _, w0⟩ := DataW.trod_int Try.underlying22 g0
  obtain ⟨z1, e1, _, w1⟩ := DataW.trod_int Try.underlying22 g1
  obtain ⟨z2, e2, _, w2⟩ := DataW.trod_int Try.underlying22 g2
  obtain ⟨z3, e3, _, w3⟩ := DataW.trod_int Try.underlying22 g3
  obtain ⟨v4, l4, e4, s4, b4⟩ := trod_bytes g4
  simp only [List.drop_zero, List.drop_succ_cons, List.take_succ_cons, List.take_zero, List.cons.injEq, and_true] at e0 e1 e2 e3 e4
  subst e0 e1 e2 e3 e4
  have r0 := u64_range' w0
  have r1 := u64_range' w1
  have r2 := u64_range' w2
  have r3 := u64_range' w3
  obtain ⟨a0, rfl⟩ := Int.eq_ofNat_of_zero_le r0.1
  obtain ⟨a1, rfl⟩ := Int.eq_ofNat_of_zero_le r1.1
  obtain ⟨a2, rfl⟩ := Int.eq_ofNat_of_zero_le r2.1
  obtain ⟨a3, rfl⟩ := Int.eq_ofNat_of_zero_le r3.1
  refine ⟨⟨a0, a1, a2, a3, _, l4⟩, rfl, by show a0 < _; omega, by show a1 < _; omega, by show a2 < _; omega, by show a3 < _; omega, ?_, s4⟩
  have hb := part_bulk (List.mem_map_of_mem (f := (·.1)) m4)
  rw [hd]
  simp only [Rows.uptoBulk]
  show l4.length < _
  omega
end
end Go.Proofs.Ytllnlimbfoingaa

namespace Go.Proofs.Ytllnlimbfoingaa
open Go.ChangeShapes Go.WideShapes Go.ChangeAt Go.RowKit Go.Deep
section
variable {H : Type} {enc : TypeId × Value → H} {W : World}
/-- a slice of rows among what came in; Q may speak of a row's bulk -/
theorem trod_rows_m {α : Type} [Inhabited α] (dec : α → List Value) (k : Nat) (e t : TypeId) (ht : Try.prog.underlying t = some (.slice e)) (hC : Try.prog.cellsOf e = k) (hk : 0 < k) (Q : α → Nat → Prop)
  (hd : ∀ n cs x, DataW.trod enc Try.prog W 0 (fun _ => true) true n e cs = some x → ∃ a, cs = dec a ∧ Q a (Rows.uptoBulk x.1)) {fuel : Nat} {cs : List Value} {x : DataW H × List MemPlace} (h : DataW.trod enc Try.prog W 0 (fun _ => true) true fuel t cs = some x) :
  ∃ v l, cs = [v] ∧ SeesR W k dec v l ∧ (∀ a ∈ l, ∃ m, Q a m ∧ m ≤ Rows.uptoBulk x.1) ∧ l.length < Rows.uptoBulk x.1 := by
 rcases open_slice ht h with ⟨hcs, hx⟩ | ⟨a, len, cap, m, n, D, Pl, hcs, _, hl, hm, hmm, hx, hi⟩
 ·exact ⟨_, [], hcs, SeesR.nil W, (fun a ha => by cases ha), one_le_bulk x.1⟩
 ·simp only [if_true] at hmm
  subst hmm
  rw [hC] at hi
  have hi' : ∀ i, i < m → ∃ y : α, (∀ j u, (dec y)[j]? = some u → W.cell? (a.add (i * k + j)) = some u) ∧ (dec y).length = k ∧ Q y (Rows.uptoBulk (D i)) := by
   intro i hlt
   obtain ⟨cs', hc, ht'⟩ := hi i hlt
   obtain ⟨y, rfl, hq⟩ := hd _ _ _ ht'
   obtain ⟨_, hcl, hat⟩ := World.cells?_some hc
   refine ⟨y, fun j u hu => ?_, hcl, hq⟩
   have hj : j < k := by rw [← hcl]; exact (List.getElem?_eq_some_iff.1 hu).1
   rw [← Go.Deep.add_add, hat j hj, hu]
  obtain ⟨f, hf⟩ := choose_lt hi'
  have hbulk : Rows.uptoBulkAll ((List.range len).map D) + 1 ≤ Rows.uptoBulk x.1 := by
   subst hx
   exact elems_bulk ((List.range len).map D) ((List.range (m - len)).map fun j => D (len + j))
  refine ⟨_, (List.range len).map f, hcs, ⟨some a, m, by simp, by simpa using hl, hm, fun h => (by cases h), fun a' ha => ?_⟩, ?_, ?_⟩
  ·cases ha
   refine ⟨fun hc => ?_, fun j y hj i u hu => ?_⟩
   ·obtain ⟨h1, h2, _⟩ := hf 0 hc
    have h0 : (dec (f 0))[0]? = some ((dec (f 0))[0]'(by omega)) := List.getElem?_eq_getElem _
    have := h1 0 _ h0
    have hs := World.cell?_spot this
    simpa [Addr.add] using hs
   ·have hjl : j < len := by have := (List.getElem?_eq_some_iff.1 hj).1; simpa using this
    have : y = f j := by simp [hjl] at hj; exact hj.symm
    subst this
    exact (hf j (by omega)).1 i u hu
  ·intro y hy
   obtain ⟨j, hj, rfl⟩ := List.mem_map.1 hy
   have hj' := List.mem_range.1 hj
   refine ⟨_, (hf j (by omega)).2.2, ?_⟩
   have := part_bulk (List.mem_map_of_mem (f := D) hj)
   omega
  ·have h2 := length_bulk ((List.range len).map D)
   simp only [List.length_map, List.length_range] at h2 ⊢
   omega
theorem cells_step : Try.prog.cellsOf 62 = 4 := by kernel_rfl
theorem cells_int' : Try.prog.cellsOf 3 = 1 := by kernel_rfl
end
end Go.Proofs.Ytllnlimbfoingaa

namespace Go.Proofs.Ytllnlimbfoingaa
open Go.ChangeShapes Go.WideShapes Go.ChangeAt Go.RowKit Go.Deep
section
variable {H : Type} {enc : TypeId × Value → H} {W : World}
set_option maxRecDepth 100000 in
theorem trod_step {n : Nat} {cs : List Value} {x : DataW H × List MemPlace} (h : DataW.trod enc Try.prog W 0 (fun _ => true) true n 62 cs = some x) :
  ∃ a : St4, cs = stL a ∧ a.2.2.2.2.length < Rows.uptoBulk x.1 ∧ Sees W a.2.2.2.1 a.2.2.2.2 := by
 obtain ⟨xs, n', q1, q2, hlen, hl, hf⟩ := DataW.trod_struct Try.underlying62 h
 subst q2
 rw [cells_step] at hlen
 match cs, hlen with
 | [c0, c1, c2, c3], _ =>
  obtain ⟨y0, m0, g0⟩ := field_at' hf hl 0 3 0 1 _ rfl rfl rfl cells_int'
  obtain ⟨y1, m1, g1⟩ := field_at' hf hl 1 3 1 1 _ rfl rfl rfl cells_int'
  obtain ⟨y2, m2, g2⟩ := field_at' hf hl 2 3 2 1 _ rfl rfl rfl cells_int'
  obtain ⟨y3, m3, g3⟩ := field_at' hf hl 3 32 3 1 _ rfl rfl rfl cells_bs
  obtain ⟨z0, e0, _, w0⟩ := DataW.trod_int Try.underlying3 g0
  obtain ⟨z1, e1, _, w1⟩ := DataW.trod_int Try.underlying3 g1
  obtain ⟨z2, e2, _, w2⟩ := DataW.trod_int Try.underlying3 g2
  obtain ⟨v3, l3, e3, s3, b3⟩ := trod_bytes g3
  simp only [List.drop_zero, List.drop_succ_cons, List.take_succ_cons, List.take_zero, List.cons.injEq, and_true] at e0 e1 e2 e3
  subst e0 e1 e2 e3
  refine ⟨(z0, z1, z2, ((_, l3) : Bv)), rfl, ?_, s3⟩
  have hb := part_bulk (List.mem_map_of_mem (f := (·.1)) m3)
  simp only [Rows.uptoBulk]
  show l3.length < _
  omega
set_option maxRecDepth 100000 in
theorem read_steps {base : Nat} {v : Value} {d : DataW H} {p : List MemPlace} (hv : Value.okWide Try.prog W .any base 58 v) (h : DataW.Trod enc Try.prog W 0 (fun _ => true) true 58 v d p) :
  ∃ l : List St4, SeesR W 4 stL v l ∧ ∀ a ∈ l, Sees W a.2.2.2.1 a.2.2.2.2 ∧ a.2.2.2.2.length ≤ Rows.uptoBulk d := by
 obtain ⟨a, len, cap, rfl⟩ := okWide_slice Try.underlying58 hv
 obtain ⟨fuel, hf⟩ := h
 haveI : Inhabited St4 := ⟨(0, 0, 0, .slice none 0 0, [])⟩
 obtain ⟨v, l, hc, hs, hq, _⟩ := trod_rows_m stL 4 62 58 Try.underlying58 cells_step (by decide) (fun a m => a.2.2.2.2.length < m ∧ Sees W a.2.2.2.1 a.2.2.2.2) (fun n cs x hh => trod_step hh) hf
 simp only [Value.cells, List.cons.injEq, and_true] at hc
 subst hc
 refine ⟨l, hs, fun a ha => ?_⟩
 obtain ⟨m, ⟨h1, h2⟩, h3⟩ := hq a ha
 have h3 : m ≤ Rows.uptoBulk d := h3
 exact ⟨h2, by omega⟩
end
set_option maxRecDepth 100000 in
theorem walk_LinkOrder {H : Type} (enc : TypeId × Value → H) (W : World) (base : Nat) {v0 : Value} {d0 : DataW H} {p0 : List MemPlace}
  (hv0 : Value.okWide Try.prog W .any base 58 v0) (h0 : DataW.Trod enc Try.prog W 0 (fun _ => true) true 58 v0 d0 p0)
  (hk : Rows.uptoBulkAll [d0] ≤ 1048576) :
  Calls Try.prog 4 #[v0] W fun e W' => e = .returned (.bool true) ∧ Below W.heap.size W W' := by
 obtain ⟨l, hl, hll⟩ := read_steps hv0 h0
 simp only [Rows.uptoBulkAll] at hk
 exact order_any v0 l W hl (fun x hx => ⟨(hll x hx).1, by have := (hll x hx).2; omega⟩)
end Go.Proofs.Ytllnlimbfoingaa

namespace Go.Proofs.Ytllnlimbfoingaa
open Go.ChangeShapes Go.WideShapes Go.ChangeAt Go.RowKit Go.Deep
set_option maxRecDepth 100000 in
theorem walk_LinkEnds {H : Type} (enc : TypeId × Value → H) (W : World) (base : Nat) {v0 : Value} {d0 : DataW H} {p0 : List MemPlace}
  (hv0 : Value.okWide Try.prog W .any base 58 v0) (h0 : DataW.Trod enc Try.prog W 0 (fun _ => true) true 58 v0 d0 p0)
  (hk : Rows.uptoBulkAll [d0] ≤ 1048576) :
  Calls Try.prog 5 #[v0] W fun e W' => e = .returned (.bool true) ∧ Below W.heap.size W W' := by
 obtain ⟨l, hl, hll⟩ := read_steps hv0 h0
 simp only [Rows.uptoBulkAll] at hk
 exact ends_any v0 l W hl (fun x hx => ⟨(hll x hx).1, by have := (hll x hx).2; omega⟩)
end Go.Proofs.Ytllnlimbfoingaa

namespace Go.Proofs.Ytllnlimbfoingaa.linkEnds
open Go.ChangeShapes Go.WideShapes Go.ChangeAt Go.RowKit
theorem own : ownKnob Try.prog.godebug = none := by kernel_rfl
theorem laidOut : laidOutB Try.prog = true := by kernel_rfl

set_option maxRecDepth 100000 in
theorem lifted (os : Os) (started : os.Started) (H : Type) (enc : TypeId × Value → H) (F : Stop.Interp) :
  ReturnsInHanded {} Try.checked os 5 .any ((Rows.OpenSpec.upto Rows.linkEndsSpec).pre6 enc Try.prog Try.f5 Rows.linkEndsUptoRow.domain false) (((Rows.OpenSpec.upto Rows.linkEndsSpec).at F).post enc Try.prog Try.f5 false true false false) := by
 refine returnsInHanded_of_cond (C := Try.checked) (s := Rows.OpenSpec.upto Rows.linkEndsSpec) (k := Rows.uptoSmall) rfl own started (by kernel_rfl) Try.func5
  (OpenSpec.witness (enc := enc) (C := Try.checked) (s := Rows.OpenSpec.upto Rows.linkEndsSpec) (k := Rows.uptoSmall) rfl false ⟨#[], #[.slice none 0 0], []⟩ 8 (by kernel_rfl) (by kernel_rfl) (by kernel_rfl)
   (x := ([.nil], [], [])) (by kernel_rfl) rfl (by kernel_rfl)) ?_
 intro W base args ds gs before hval0 hW _ hk0 _
 have hval : ∀ (j : Nat) t v, Try.f5.params[j]? = some t → args[j]? = some v → Value.okWide Try.prog W .any base t v := hval0
 have hW' := hW
 obtain ⟨p, q, hA0, hV, rfl, hfz, hnd⟩ := hW
 have hA : DataW.TrodAll enc Try.prog W 0 (fun _ => true) true Try.f5.params.toList args.toList ds p := hA0
 rw [Try.params5] at hA hval
 obtain ⟨v0, vs0, d0, ds0, p0, q0, hargs, rfl, rfl, h0, r0⟩ := trodAll_cons hA
 obtain ⟨rfl, rfl, rfl⟩ := trodAll_nil r0
 obtain rfl : args = #[v0] := by cases args; simp_all
 obtain ⟨rfl, rfl⟩ := trodVars_none hV
 have lt0 : ∀ x ∈ p0, x.block < W.heap.size := by obtain ⟨m, hm⟩ := h0; exact DataW.trod_lt m _ _ _ hm
 have hk : Rows.uptoBulkAll [d0] ≤ 1048576 := of_decide_eq_true hk0
 clear hA0 hval0
 refine (walk_LinkEnds enc W base (hval 0 58 v0 rfl rfl) h0 hk).mono fun e W' ⟨he, bel⟩ => ?_
 subst he
 exact ⟨_, rfl, _, _, _, [], _, [], hW', trodAll_mk1 (shut_bool Try.underlying4 _), (trodAll_cons_mk (Below.trod laidOut (by kernel_rfl) (of_decide_eq_true (by kernel_rfl)) h0 bel lt0) trodAll_mk0), rfl, bel.frame _, fun h => by cases h⟩

theorem proved : Rows.LinkEndsUptoSaid :=
 OpenClaim.holds_of_cond 5 Try.f5 rfl rfl rfl rfl rfl rfl rfl ⟨rfl, rfl, rfl, rfl, rfl⟩ rfl rfl rfl rfl rfl (by kernel_rfl) Try.func5 (by kernel_rfl)
  (of_decide_eq_true (by kernel_rfl)) (by unfold Func.isWrapper; first | (rw [if_pos (by decide +kernel)]; kernel_rfl) | (rw [if_neg (by decide +kernel)]; exact ⟨rfl, rfl⟩))
  (fun os started H enc _ F => lifted os started H enc F)
end Go.Proofs.Ytllnlimbfoingaa.linkEnds
