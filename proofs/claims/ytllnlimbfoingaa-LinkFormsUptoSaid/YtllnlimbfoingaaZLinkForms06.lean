/- DERIVED. How arguments read: bytes; and what the bound on their bulk gives. · DERIVED. Chapter 20: how a packet of the document reads. · DERIVED. LinkForms, from how its arguments read. · The statement LinkForms, second form: for every input of bulk at most 1048576 the law returns true, and the arguments read as they did. -/
import Derived.Test.YtllnlimbfoingaaRows
import Derived.Test.YtllnlimbfoingaaY01
import Derived.ProofKit
import Derived.OpenShut
import Derived.Test.YtllnlimbfoingaaZLinkForms04
import Derived.Deep.Slices
import Derived.Deep.Fields
import Derived.Test.YtllnlimbfoingaaZLinkForms05
import Derived.JoinedCond
import Derived.ChangeOld
namespace Go.Proofs.Ytllnlimbfoingaa
open Go.ChangeShapes Go.WideShapes Go.ChangeAt Go.RowKit

theorem one_le_bulk {H : Type} (d : DataW H) : 1 ≤ Rows.uptoBulk d := by
 cases d with
 | lit l => cases l <;> simp [Rows.uptoBulk]
 | nil => simp [Rows.uptoBulk]
 | ptr d => simp [Rows.uptoBulk]
 | slice elems spare => simp [Rows.uptoBulk]
 | agg parts => simp [Rows.uptoBulk]
 | iface t d => simp [Rows.uptoBulk]
 | map entries => simp [Rows.uptoBulk]
 | held h => simp [Rows.uptoBulk]
theorem part_bulk {H : Type} {d : DataW H} {l : List (DataW H)} (h : d ∈ l) : Rows.uptoBulk d ≤ Rows.uptoBulkAll l := by
 induction l with
 | nil => cases h
 | cons x r ih =>
  simp only [Rows.uptoBulkAll]
  cases List.mem_cons.1 h with
  | inl e => subst e; omega
  | inr e => have := ih e; omega
theorem length_bulk {H : Type} (l : List (DataW H)) : l.length ≤ Rows.uptoBulkAll l := by
 induction l with
 | nil => simp [Rows.uptoBulkAll]
 | cons x r ih => have := one_le_bulk x; simp only [Rows.uptoBulkAll, List.length_cons]; omega
theorem elems_bulk {H : Type} (elems spare : List (DataW H)) : Rows.uptoBulkAll elems + 1 ≤ Rows.uptoBulk (.slice elems spare) := by
 simp only [Rows.uptoBulk]; omega

/-- a []byte among what came in, at whatever depth -/
theorem trod_bytes {H : Type} {enc : TypeId × Value → H} {W : World} {fuel : Nat} {cs : List Value} {x : DataW H × List MemPlace} (hf : DataW.trod enc Try.prog W 0 (fun _ => true) true fuel 32 cs = some x) :
  ∃ (v : Value) (l : List UInt8), cs = [v] ∧ Sees W v l ∧ l.length < Rows.uptoBulk x.1 := by
 rcases open_ints Try.underlying32 Try.underlying5 (by kernel_rfl) hf with ⟨hcs, hx⟩ | ⟨a, len, cap, zs, hcs, _, hl, hm, hz, hx, hcell, hwz⟩
 ·exact ⟨_, [], hcs, Sees.nil W, one_le_bulk x.1⟩
 ·subst hx
  have hz' : zs.length = cap := by simpa using hz
  have hlen : ((zs.take len).map fun z => UInt8.ofNat z.toNat).length = len := by simp; omega
  refine ⟨_, (zs.take len).map fun z => UInt8.ofNat z.toNat, hcs, ⟨some a, cap, by rw [hlen], by rw [hlen]; exact hl, hm, fun h => (by cases h), fun a' ha => ?_⟩, ?_⟩
  ·cases ha
   refine ⟨fun hc => ?_, fun j b hj => ?_⟩
   ·have := hcell 0 (by omega)
    have hs := World.cell?_spot this
    simpa [Addr.add] using hs
   ·rw [List.getElem?_map, Option.map_eq_some_iff] at hj
    obtain ⟨z, hz1, rfl⟩ := hj
    rw [List.getElem?_take] at hz1
    split at hz1
    ·have hjl := (List.getElem?_eq_some_iff.1 hz1).1
     rw [hcell j hjl]
     have hzz : zs.getD j 0 = z := by simp [List.getD, hz1]
     have hw := hwz z (List.mem_of_getElem? hz1)
     have hr : 0 ≤ z ∧ z ≤ 255 := by simpa [Lit.wf, IntKind.min, IntKind.max, IntKind.signed, IntKind.bits] using hw
     rw [hzz]
     unfold u8
     rw [UInt8.toNat_ofNat']
     congr 2
     omega
    ·cases hz1
  ·rw [hlen]
   have h1 := elems_bulk (lits (H := H) .u8 (zs.take len)) (lits .u8 (zs.drop len))
   have h2 := length_bulk (lits (H := H) .u8 (zs.take len))
   have h3 : (lits (H := H) .u8 (zs.take len)).length = len := by simp [lits]; omega
   simp only at h1 ⊢
   omega
set_option maxRecDepth 100000 in
theorem read_bytes {H : Type} {enc : TypeId × Value → H} {W : World} {base : Nat} {v : Value} {d : DataW H} {p : List MemPlace} (hv : Value.okWide Try.prog W .any base 32 v)
  (h : DataW.Trod enc Try.prog W 0 (fun _ => true) true 32 v d p) : ∃ l : List UInt8, Sees W v l ∧ l.length < Rows.uptoBulk d := by
 obtain ⟨a, len, cap, rfl⟩ := okWide_slice Try.underlying32 hv
 obtain ⟨fuel, hf⟩ := h
 obtain ⟨v, l, hc, hs, hl⟩ := trod_bytes hf
 simp only [Value.cells, List.cons.injEq, and_true] at hc
 subst hc
 exact ⟨l, hs, hl⟩
end Go.Proofs.Ytllnlimbfoingaa

namespace Go.Proofs.Ytllnlimbfoingaa
open Go.ChangeShapes Go.WideShapes Go.ChangeAt Go.RowKit Go.Deep
section
variable {H : Type} {enc : TypeId × Value → H} {W : World}
theorem cells_pk20 : Try.prog.cellsOf 34 = 5 := by kernel_rfl
theorem cells_u64' : Try.prog.cellsOf 22 = 1 := by kernel_rfl
theorem cells_bs : Try.prog.cellsOf 32 = 1 := by kernel_rfl
theorem u64_range' {z : Int} (h : (Lit.int .u64 z).wf = true) : 0 ≤ z ∧ z ≤ 18446744073709551615 := by
 simpa [Lit.wf, IntKind.min, IntKind.max, IntKind.signed, IntKind.bits] using h
theorem field_at' {fs : Array Field} {xs : List (DataW H × List MemPlace)} {n : Nat} {cs : List Value}
  (hf : ∀ (i : Nat) (f : Field), fs[i]? = some f → DataW.trod enc Try.prog W 0 (fun _ => true) true n f.type ((cs.drop f.offset).take (Try.prog.cellsOf f.type)) = xs[i]?) (hl : xs.length = fs.size)
  (i : Nat) (t : TypeId) (off k : Nat) (f : Field) (h : fs[i]? = some f) (ht : f.type = t) (ho : f.offset = off) (hk : Try.prog.cellsOf t = k) : ∃ y, y ∈ xs ∧ DataW.trod enc Try.prog W 0 (fun _ => true) true n t ((cs.drop off).take k) = some y := by
 subst ht ho hk
 have h1 := hf i f h
 have hi : i < xs.length := by rw [hl]; exact (Array.getElem?_eq_some_iff.1 h).1
 exact ⟨xs[i], List.getElem_mem hi, h1.trans (List.getElem?_eq_getElem hi)⟩
set_option maxRecDepth 100000 in
theorem read_pk {base : Nat} {v : Value} {d : DataW H} {p : List MemPlace} (hv : Value.okWide Try.prog W .any base 34 v) (h : DataW.Trod enc Try.prog W 0 (fun _ => true) true 34 v d p) :
  ∃ x : Pv, v = .agg x.cells.toArray ∧ x.src < 18446744073709551616 ∧ x.dst < 18446744073709551616 ∧ x.seq < 18446744073709551616 ∧ x.ack < 18446744073709551616 ∧ x.d.length < Rows.uptoBulk d ∧ Sees W x.v x.d := by
 obtain ⟨cs, rfl, hsz⟩ := okWide_struct Try.underlying34 hv
 obtain ⟨fuel, hf'⟩ := h
 obtain ⟨xs, n', q1, q2, hlen, hl, hf⟩ := DataW.trod_struct Try.underlying34 hf'
 obtain ⟨hd, -⟩ := Prod.mk.inj q2
 obtain ⟨l⟩ := cs
 rw [cells_pk20] at hlen
 simp only [Value.cells] at hlen hf
 match l, hlen with
 | [c0, c1, c2, c3, c4], _ =>
  obtain ⟨y0, m0, g0⟩ := field_at' hf hl 0 22 0 1 _ rfl rfl rfl cells_u64'
  obtain ⟨y1, m1, g1⟩ := field_at' hf hl 1 22 1 1 _ rfl rfl rfl cells_u64'
  obtain ⟨y2, m2, g2⟩ := field_at' hf hl 2 22 2 1 _ rfl rfl rfl cells_u64'
  obtain ⟨y3, m3, g3⟩ := field_at' hf hl 3 22 3 1 _ rfl rfl rfl cells_u64'
  obtain ⟨y4, m4, g4⟩ := field_at' hf hl 4 32 4 1 _ rfl rfl rfl cells_bs
  obtain ⟨z0, e0, _, w0⟩ := DataW.trod_int Try.underlying22 g0
  obtain ⟨z1, e1, _, w1⟩ := DataW.trod_int Try.underlying22 g1
  obtain ⟨z2, e2, _, w2⟩ := DataW.trod_int Try.underlying22 g2
  obtain ⟨z3, e3, _, w3⟩ := DataW.trod_int Try.underlying22 g3
  obtain ⟨v4, l4, e4, s4, b4⟩ := trod_bytes g4
  simp only [List.drop_zero, List.drop_succ_cons, List.take_succ_cons, List.take_zero, List.cons.injEq, and_true] at e0 e1 e2 e3 e4
  subst e0 e1 e2 e3 e4
  have r0 := u64_range' w0
  have r1 := u64_range' w1
  have r2 := u64_range' w2
  have r3 := u64_range' w3
  obtain ⟨a0, rfl⟩ := Int.eq_ofNat_of_zero_le r0.1
  obtain ⟨a1, rfl⟩ := Int.eq_ofNat_of_zero_le r1.1
  obtain ⟨a2, rfl⟩ := Int.eq_ofNat_of_zero_le r2.1
  obtain ⟨a3, rfl⟩ := Int.eq_ofNat_of_zero_le r3.1
  refine ⟨⟨a0, a1, a2, a3, _, l4⟩, rfl, by show a0 < _; omega, by show a1 < _; omega, by show a2 < _; omega, by show a3 < _; omega, ?_, s4⟩
  have hb := part_bulk (List.mem_map_of_mem (f := (·.1)) m4)
  rw [hd]
  simp only [Rows.uptoBulk]
  show l4.length < _
  omega
end
end Go.Proofs.Ytllnlimbfoingaa

namespace Go.Proofs.Ytllnlimbfoingaa
open Go.ChangeShapes Go.WideShapes Go.ChangeAt Go.RowKit

set_option maxRecDepth 100000 in
theorem walk_LinkForms {H : Type} (enc : TypeId × Value → H) (W : World) (base : Nat) {v0 v1 : Value} {d0 d1 : DataW H} {p0 p1 : List MemPlace}
  (hv0 : Value.okWide Try.prog W .any base 34 v0) (h0 : DataW.Trod enc Try.prog W 0 (fun _ => true) true 34 v0 d0 p0)
  (hv1 : Value.okWide Try.prog W .any base 32 v1) (h1 : DataW.Trod enc Try.prog W 0 (fun _ => true) true 32 v1 d1 p1)
  (hk : Rows.uptoBulkAll [d0, d1] ≤ 1048576) :
  Calls Try.prog 7 #[v0, v1] W fun e W' => e = .returned (.bool true) ∧ Below W.heap.size W W' := by
 obtain ⟨a, rfl, r0, r1, r2, r3, r4, hs⟩ := read_pk hv0 h0
 obtain ⟨l, hl, hll⟩ := read_bytes hv1 h1
 simp only [Rows.uptoBulkAll] at hk
 exact (forms_any a v1 l W hs ⟨r0, r1, r2, r3, by omega⟩ hl (by omega)).mono fun e W' h => ⟨h.1, Old.below h.2⟩
end Go.Proofs.Ytllnlimbfoingaa

namespace Go.Proofs.Ytllnlimbfoingaa.linkForms
open Go.ChangeShapes Go.WideShapes Go.ChangeAt Go.RowKit
theorem own : ownKnob Try.prog.godebug = none := by kernel_rfl
theorem laidOut : laidOutB Try.prog = true := by kernel_rfl

set_option maxRecDepth 100000 in
theorem lifted (os : Os) (started : os.Started) (H : Type) (enc : TypeId × Value → H) (F : Stop.Interp) :
  ReturnsInHanded {} Try.checked os 7 .any ((Rows.OpenSpec.upto Rows.linkFormsSpec).pre6 enc Try.prog Try.f7 Rows.linkFormsUptoRow.domain false) (((Rows.OpenSpec.upto Rows.linkFormsSpec).at F).post enc Try.prog Try.f7 false true false false) := by
 refine returnsInHanded_of_cond (C := Try.checked) (s := Rows.OpenSpec.upto Rows.linkFormsSpec) (k := Rows.uptoSmall) rfl own started (by kernel_rfl) Try.func7
  (OpenSpec.witness (enc := enc) (C := Try.checked) (s := Rows.OpenSpec.upto Rows.linkFormsSpec) (k := Rows.uptoSmall) rfl false ⟨#[], #[.agg #[.int .u64 0, .int .u64 0, .int .u64 0, .int .u64 0, .slice none 0 0], .slice none 0 0], []⟩ 8 (by kernel_rfl) (by kernel_rfl) (by kernel_rfl)
   (x := ([.agg [.lit (.int .u64 0), .lit (.int .u64 0), .lit (.int .u64 0), .lit (.int .u64 0), .nil], .nil], [], [])) (by kernel_rfl) rfl (by kernel_rfl)) ?_
 intro W base args ds gs before hval0 hW _ hk0 _
 have hval : ∀ (j : Nat) t v, Try.f7.params[j]? = some t → args[j]? = some v → Value.okWide Try.prog W .any base t v := hval0
 have hW' := hW
 obtain ⟨p, q, hA0, hV, rfl, hfz, hnd⟩ := hW
 have hA : DataW.TrodAll enc Try.prog W 0 (fun _ => true) true Try.f7.params.toList args.toList ds p := hA0
 rw [Try.params7] at hA hval
 obtain ⟨v0, vs0, d0, ds0, p0, q0, hargs, rfl, rfl, h0, r0⟩ := trodAll_cons hA
 obtain ⟨v1, vs1, d1, ds1, p1, q1, rfl, rfl, rfl, h1, r1⟩ := trodAll_cons r0
 obtain ⟨rfl, rfl, rfl⟩ := trodAll_nil r1
 obtain rfl : args = #[v0, v1] := by cases args; simp_all
 obtain ⟨rfl, rfl⟩ := trodVars_none hV
 have lt0 : ∀ x ∈ p0, x.block < W.heap.size := by obtain ⟨m, hm⟩ := h0; exact DataW.trod_lt m _ _ _ hm
 have lt1 : ∀ x ∈ p1, x.block < W.heap.size := by obtain ⟨m, hm⟩ := h1; exact DataW.trod_lt m _ _ _ hm
 have hk : Rows.uptoBulkAll [d0, d1] ≤ 1048576 := of_decide_eq_true hk0
 clear hA0 hval0
 refine (walk_LinkForms enc W base (hval 0 34 v0 rfl rfl) h0 (hval 1 32 v1 rfl rfl) h1 hk).mono fun e W' ⟨he, bel⟩ => ?_
 subst he
 exact ⟨_, rfl, _, _, _, [], _, [], hW', trodAll_mk1 (shut_bool Try.underlying4 _), (trodAll_cons_mk (Below.trod laidOut (by kernel_rfl) (of_decide_eq_true (by kernel_rfl)) h0 bel lt0) (trodAll_cons_mk (Below.trod laidOut (by kernel_rfl) (of_decide_eq_true (by kernel_rfl)) h1 bel lt1) trodAll_mk0)), rfl, bel.frame _, fun h => by cases h⟩

theorem proved : Rows.LinkFormsUptoSaid :=
 OpenClaim.holds_of_cond 7 Try.f7 rfl rfl rfl rfl rfl rfl rfl ⟨rfl, rfl, rfl, rfl, rfl⟩ rfl rfl rfl rfl rfl (by kernel_rfl) Try.func7 (by kernel_rfl)
  (of_decide_eq_true (by kernel_rfl)) (by unfold Func.isWrapper; first | (rw [if_pos (by decide +kernel)]; kernel_rfl) | (rw [if_neg (by decide +kernel)]; exact ⟨rfl, rfl⟩))
  (fun os started H enc _ F => lifted os started H enc F)
end Go.Proofs.Ytllnlimbfoingaa.linkForms
