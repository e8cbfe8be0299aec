/- DERIVED. Chapter 25: how calls among the arguments read, their predicates' lengths too; PagesPlays, from how its arguments read. · The statement PagesPlays, second form: for every input of bulk at most 1048576 the law returns true, and the arguments read as they did. -/
import Derived.Test.YtiednihagnehlaaZPagesPlays07
import Derived.ProofKit
import Derived.OpenShut
import Derived.Deep.Slices
import Derived.Deep.Fields
import Derived.Test.YtiednihagnehlaaRows
import Derived.JoinedCond
import Derived.ChangeOld
namespace Go.Proofs.Ytiednihagnehlaa
open Go.ChangeShapes Go.WideShapes Go.ChangeAt Go.RowKit Go.Deep
section
variable {H : Type} {enc : TypeId × Value → H} {W : World}
theorem trod_pred_b {n : Nat} {cs : List Value} {x : DataW H × List MemPlace} (h : Trd enc W n 30 cs x) :
  ∃ v l, cs = [v] ∧ Cons W v l ∧ (0 < l.length → ∀ b, v.ownBlock = some b → b < W.heap.size) ∧ l.length < Rows.uptoBulk x.1 := by
 obtain ⟨v, l, h1, h2, h3, h4, h5⟩ := trod_rows_b Con.cells 7 69 30 Try.underlying30 cells_con (by decide) (fun c => c.fine W) (fun n cs x hh => trod_con hh) h
 exact ⟨v, l, h1, ⟨h2, h3⟩, h4, h5⟩
set_option maxRecDepth 100000 in
theorem trod_msg_b {n : Nat} {cs : List Value} {x : DataW H × List MemPlace} (h : Trd enc W n 60 cs x) :
  ∃ m : Ms, cs = m.cells ∧ m.fine W ∧ m.ps.length < Rows.uptoBulk x.1 := by
 obtain ⟨xs, n', _, rfl, hlen, hl, hf⟩ := DataW.trod_struct Try.underlying60 h
 rw [cells_rmsg] at hlen
 match cs, hlen with
 | [c0, c1, c2, c3, c4, c5, c6, c7, c8, c9, c10, c11, c12, c13, c14, c15, c16, c17], _ =>
  obtain ⟨y0, g0⟩ := field_at hf hl 0 3 0 1 _ rfl rfl rfl cells_int
  obtain ⟨y1, g1⟩ := field_at hf hl 1 3 1 1 _ rfl rfl rfl cells_int
  obtain ⟨y2, g2⟩ := field_at hf hl 2 28 2 1 _ rfl rfl rfl cells_u64
  obtain ⟨y3, g3⟩ := field_at hf hl 3 4 3 1 _ rfl rfl rfl cells_bool
  obtain ⟨y4, g4, hy4⟩ := field_at_mem hf hl 4 30 4 1 _ rfl rfl rfl cells_pred
  obtain ⟨y5, g5⟩ := field_at hf hl 5 35 5 4 _ rfl rfl rfl cells_item
  obtain ⟨y6, g6⟩ := field_at hf hl 6 45 9 3 _ rfl rfl rfl cells_rtok
  obtain ⟨y7, g7⟩ := field_at hf hl 7 28 12 1 _ rfl rfl rfl cells_u64
  obtain ⟨y8, g8⟩ := field_at hf hl 8 41 13 5 _ rfl rfl rfl cells_page
  obtain ⟨z0, e0, _, w0⟩ := DataW.trod_int Try.underlying3 g0
  obtain ⟨z1, e1, _, w1⟩ := DataW.trod_int Try.underlying3 g1
  obtain ⟨z2, e2, _, w2⟩ := DataW.trod_int Try.underlying28 g2
  obtain ⟨z3, e3, _⟩ := DataW.trod_bool Try.underlying4 g3
  obtain ⟨pv, ps, e4, p1, p2, p3⟩ := trod_pred_b g4
  obtain ⟨it, e5, i1⟩ := trod_item g5
  obtain ⟨tb, tl, tc, e6, t1, t2, t3⟩ := trod_rtok g6
  obtain ⟨z7, e7, _, w7⟩ := DataW.trod_int Try.underlying28 g7
  obtain ⟨pg, e8, q1, _⟩ := trod_page g8
  simp only [List.drop_zero, List.drop_succ_cons, List.take_succ_cons, List.take_zero, List.cons.injEq, and_true, It.cells, Pg.cells] at e0 e1 e2 e3 e4 e5 e6 e7 e8
  have r2 := u64_range w2
  have r7 := u64_range w7
  obtain ⟨ver, rfl⟩ := Int.eq_ofNat_of_zero_le r2.1
  obtain ⟨frm, rfl⟩ := Int.eq_ofNat_of_zero_le r7.1
  obtain ⟨rfl, rfl, rfl, rfl⟩ := e5
  obtain ⟨rfl, rfl, rfl⟩ := e6
  obtain ⟨rfl, rfl, rfl, rfl, rfl⟩ := e8
  subst e0 e1 e2 e3 e4 e7
  exact ⟨⟨z0, z1, ver, z3, _, ps, it, tb, tl, tc, frm, pg⟩, rfl, ⟨⟨p1, p2⟩, i1, q1, ⟨i64_range w0, i64_range w1, t1⟩, by show ver < _; omega, t2, t3, by show frm < _; omega⟩, Nat.lt_of_lt_of_le p3 (part_bulk_agg hy4)⟩
set_option maxRecDepth 100000 in
theorem trod_op_b {n : Nat} {cs : List Value} {x : DataW H × List MemPlace} (h : Trd enc W n 62 cs x) :
  ∃ o : Opq, cs = opL o ∧ (I64 o.what ∧ I64 o.link) ∧ o.m.fine W ∧ o.m.ps.length < Rows.uptoBulk x.1 := by
 obtain ⟨xs, n', _, rfl, hlen, hl, hf⟩ := DataW.trod_struct Try.underlying62 h
 rw [cells_op] at hlen
 match cs, hlen with
 | c0 :: c1 :: rest, hlen =>
  obtain ⟨y0, g0⟩ := field_at hf hl 0 3 0 1 _ rfl rfl rfl cells_int
  obtain ⟨y1, g1⟩ := field_at hf hl 1 3 1 1 _ rfl rfl rfl cells_int
  obtain ⟨y2, g2, hy2⟩ := field_at_mem hf hl 2 60 2 18 _ rfl rfl rfl cells_rmsg
  obtain ⟨z0, e0, _, w0⟩ := DataW.trod_int Try.underlying3 g0
  obtain ⟨z1, e1, _, w1⟩ := DataW.trod_int Try.underlying3 g1
  obtain ⟨m, e2, hm, hb⟩ := trod_msg_b g2
  simp only [List.drop_zero, List.drop_succ_cons, List.take_succ_cons, List.take_zero, List.cons.injEq, and_true] at e0 e1 e2
  subst e0 e1
  have hr : rest.take 18 = rest := List.take_of_length_le (by simp at hlen; omega)
  rw [hr] at e2
  subst e2
  exact ⟨⟨z0, z1, m⟩, rfl, ⟨i64_range w0, i64_range w1⟩, hm, Nat.lt_of_lt_of_le hb (part_bulk_agg hy2)⟩
/-- a slice of rows among what came in; Q may speak of a row's bulk -/
theorem trod_rows_m {α : Type} [Inhabited α] (dec : α → List Value) (k : Nat) (e t : TypeId) (ht : Try.prog.underlying t = some (.slice e)) (hC : Try.prog.cellsOf e = k) (hk : 0 < k) (Q : α → Nat → Prop)
  (hd : ∀ n cs x, DataW.trod enc Try.prog W 0 (fun _ => true) true n e cs = some x → ∃ a, cs = dec a ∧ Q a (Rows.uptoBulk x.1)) {fuel : Nat} {cs : List Value} {x : DataW H × List MemPlace} (h : DataW.trod enc Try.prog W 0 (fun _ => true) true fuel t cs = some x) :
  ∃ v l, cs = [v] ∧ SeesR W k dec v l ∧ (∀ a ∈ l, ∃ m, Q a m ∧ m ≤ Rows.uptoBulk x.1) ∧ l.length < Rows.uptoBulk x.1 := by
 rcases open_slice ht h with ⟨hcs, hx⟩ | ⟨a, len, cap, m, n, D, Pl, hcs, _, hl, hm, hmm, hx, hi⟩
 ·exact ⟨_, [], hcs, SeesR.nil W, (fun a ha => by cases ha), one_le_bulk x.1⟩
 ·simp only [if_true] at hmm
  subst hmm
  rw [hC] at hi
  have hi' : ∀ i, i < m → ∃ y : α, (∀ j u, (dec y)[j]? = some u → W.cell? (a.add (i * k + j)) = some u) ∧ (dec y).length = k ∧ Q y (Rows.uptoBulk (D i)) := by
   intro i hlt
   obtain ⟨cs', hc, ht'⟩ := hi i hlt
   obtain ⟨y, rfl, hq⟩ := hd _ _ _ ht'
   obtain ⟨_, hcl, hat⟩ := World.cells?_some hc
   refine ⟨y, fun j u hu => ?_, hcl, hq⟩
   have hj : j < k := by rw [← hcl]; exact (List.getElem?_eq_some_iff.1 hu).1
   rw [← Go.Deep.add_add, hat j hj, hu]
  obtain ⟨f, hf⟩ := choose_lt hi'
  have hbulk : Rows.uptoBulkAll ((List.range len).map D) + 1 ≤ Rows.uptoBulk x.1 := by
   subst hx
   exact elems_bulk ((List.range len).map D) ((List.range (m - len)).map fun j => D (len + j))
  refine ⟨_, (List.range len).map f, hcs, ⟨some a, m, by simp, by simpa using hl, hm, fun h => (by cases h), fun a' ha => ?_⟩, ?_, ?_⟩
  ·cases ha
   refine ⟨fun hc => ?_, fun j y hj i u hu => ?_⟩
   ·obtain ⟨h1, h2, _⟩ := hf 0 hc
    have h0 : (dec (f 0))[0]? = some ((dec (f 0))[0]'(by omega)) := List.getElem?_eq_getElem _
    have := h1 0 _ h0
    have hs := World.cell?_spot this
    simpa [Addr.add] using hs
   ·have hjl : j < len := by have := (List.getElem?_eq_some_iff.1 hj).1; simpa using this
    have : y = f j := by simp [hjl] at hj; exact hj.symm
    subst this
    exact (hf j (by omega)).1 i u hu
  ·intro y hy
   obtain ⟨j, hj, rfl⟩ := List.mem_map.1 hy
   have hj' := List.mem_range.1 hj
   refine ⟨_, (hf j (by omega)).2.2, ?_⟩
   have := part_bulk (List.mem_map_of_mem (f := D) hj)
   omega
  ·have h2 := length_bulk ((List.range len).map D)
   simp only [List.length_map, List.length_range] at h2 ⊢
   omega
set_option maxRecDepth 100000 in
theorem read_ops_b {base : Nat} {v : Value} {d : DataW H} {p : List MemPlace} (hv : Value.okWide Try.prog W .any base 55 v) (h : DataW.Trod enc Try.prog W 0 (fun _ => true) true 55 v d p) :
  ∃ l : List Opq, SeesR W 20 opL v l ∧ ∀ o ∈ l, o.m.fine W ∧ o.m.ps.length ≤ Rows.uptoBulk d := by
 obtain ⟨a, len, cap, rfl⟩ := okWide_slice Try.underlying55 hv
 obtain ⟨fuel, hf⟩ := h
 obtain ⟨v, l, hc, hs, hq, _⟩ := trod_rows_m opL 20 62 55 Try.underlying55 cells_op (by decide) (fun o m => o.m.fine W ∧ o.m.ps.length < m) (fun n cs x hh => by obtain ⟨o, h1, _, h2, h3⟩ := trod_op_b hh; exact ⟨o, h1, h2, h3⟩) hf
 simp only [Value.cells, List.cons.injEq, and_true] at hc
 subst hc
 refine ⟨l, hs, fun o ho => ?_⟩
 obtain ⟨m, ⟨h1, h2⟩, h3⟩ := hq o ho
 have h3 : m ≤ Rows.uptoBulk d := h3
 exact ⟨h1, by omega⟩
end
set_option maxRecDepth 100000 in
theorem walk_PagesPlays {H : Type} (enc : TypeId × Value → H) (W : World) (base : Nat) {v0 v1 : Value} {d0 d1 : DataW H} {p0 p1 : List MemPlace}
  (hv0 : Value.okWide Try.prog W .any base 3 v0) (h0 : DataW.Trod enc Try.prog W 0 (fun _ => true) true 3 v0 d0 p0)
  (hv1 : Value.okWide Try.prog W .any base 55 v1) (h1 : DataW.Trod enc Try.prog W 0 (fun _ => true) true 55 v1 d1 p1)
  (hk : Rows.uptoBulkAll [d0, d1] ≤ 1048576) :
  Calls Try.prog 4 #[v0, v1] W fun e W' => e = .returned (.bool true) ∧ Below W.heap.size W W' := by
 obtain ⟨z, rfl, rfl, rfl, wz⟩ := open_int Try.underlying3 hv0 h0
 obtain ⟨l, hl, hll⟩ := read_ops_b hv1 h1
 simp only [Rows.uptoBulkAll] at hk
 by_cases hm : 1 ≤ z ∧ z ≤ 4096
 ·obtain ⟨n, rfl⟩ := Int.eq_ofNat_of_zero_le (show 0 ≤ z by omega)
  exact (pplays_yes n v1 l W (by omega) hl (fun x hx => ⟨(hll x hx).1, by have := (hll x hx).2; omega⟩)).mono fun e w' hh => ⟨hh.1, hh.2.below⟩
 ·exact (pplays_no z v1 W (by omega)).mono fun e w' hh => ⟨hh.1, hh.2.below⟩
end Go.Proofs.Ytiednihagnehlaa

namespace Go.Proofs.Ytiednihagnehlaa.pagesPlays
open Go.ChangeShapes Go.WideShapes Go.ChangeAt Go.RowKit
theorem own : ownKnob Try.prog.godebug = none := by kernel_rfl
theorem laidOut : laidOutB Try.prog = true := by kernel_rfl

set_option maxRecDepth 100000 in
theorem lifted (os : Os) (started : os.Started) (H : Type) (enc : TypeId × Value → H) (F : Stop.Interp) :
  ReturnsInHanded {} Try.checked os 4 .any ((Rows.OpenSpec.upto Rows.pagesPlaysSpec).pre6 enc Try.prog Try.f4 Rows.pagesPlaysUptoRow.domain false) (((Rows.OpenSpec.upto Rows.pagesPlaysSpec).at F).post enc Try.prog Try.f4 false true false false) := by
 refine returnsInHanded_of_cond (C := Try.checked) (s := Rows.OpenSpec.upto Rows.pagesPlaysSpec) (k := Rows.uptoSmall) rfl own started (by kernel_rfl) Try.func4
  (OpenSpec.witness (enc := enc) (C := Try.checked) (s := Rows.OpenSpec.upto Rows.pagesPlaysSpec) (k := Rows.uptoSmall) rfl false ⟨#[], #[.int .i64 0, .slice none 0 0], []⟩ 8 (by kernel_rfl) (by kernel_rfl) (by kernel_rfl)
   (x := ([.lit (.int .i64 0), .nil], [], [])) (by kernel_rfl) rfl (by kernel_rfl)) ?_
 intro W base args ds gs before hval0 hW _ hk0 _
 have hval : ∀ (j : Nat) t v, Try.f4.params[j]? = some t → args[j]? = some v → Value.okWide Try.prog W .any base t v := hval0
 have hW' := hW
 obtain ⟨p, q, hA0, hV, rfl, hfz, hnd⟩ := hW
 have hA : DataW.TrodAll enc Try.prog W 0 (fun _ => true) true Try.f4.params.toList args.toList ds p := hA0
 rw [Try.params4] at hA hval
 obtain ⟨v0, vs0, d0, ds0, p0, q0, hargs, rfl, rfl, h0, r0⟩ := trodAll_cons hA
 obtain ⟨v1, vs1, d1, ds1, p1, q1, rfl, rfl, rfl, h1, r1⟩ := trodAll_cons r0
 obtain ⟨rfl, rfl, rfl⟩ := trodAll_nil r1
 obtain rfl : args = #[v0, v1] := by cases args; simp_all
 obtain ⟨rfl, rfl⟩ := trodVars_none hV
 have lt0 : ∀ x ∈ p0, x.block < W.heap.size := by obtain ⟨m, hm⟩ := h0; exact DataW.trod_lt m _ _ _ hm
 have lt1 : ∀ x ∈ p1, x.block < W.heap.size := by obtain ⟨m, hm⟩ := h1; exact DataW.trod_lt m _ _ _ hm
 have hk : Rows.uptoBulkAll [d0, d1] ≤ 1048576 := of_decide_eq_true hk0
 clear hA0 hval0
 refine (walk_PagesPlays enc W base (hval 0 3 v0 rfl rfl) h0 (hval 1 55 v1 rfl rfl) h1 hk).mono fun e W' ⟨he, bel⟩ => ?_
 subst he
 exact ⟨_, rfl, _, _, _, [], _, [], hW', trodAll_mk1 (shut_bool Try.underlying4 _), (trodAll_cons_mk (Below.trod laidOut (by kernel_rfl) (of_decide_eq_true (by kernel_rfl)) h0 bel lt0) (trodAll_cons_mk (Below.trod laidOut (by kernel_rfl) (of_decide_eq_true (by kernel_rfl)) h1 bel lt1) trodAll_mk0)), rfl, bel.frame _, fun h => by cases h⟩

theorem proved : Rows.PagesPlaysUptoSaid :=
 OpenClaim.holds_of_cond 4 Try.f4 rfl rfl rfl rfl rfl rfl rfl ⟨rfl, rfl, rfl, rfl, rfl⟩ rfl rfl rfl rfl rfl (by kernel_rfl) Try.func4 (by kernel_rfl)
  (of_decide_eq_true (by kernel_rfl)) (by unfold Func.isWrapper; first | (rw [if_pos (by decide +kernel)]; kernel_rfl) | (rw [if_neg (by decide +kernel)]; exact ⟨rfl, rfl⟩))
  (fun os started H enc _ F => lifted os started H enc F)
end Go.Proofs.Ytiednihagnehlaa.pagesPlays
