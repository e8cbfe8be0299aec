/- DERIVED. How a message among the arguments reads. -/
import Derived.Test.YtpjpimahnnekkaaGreatRows
import Derived.Test.YtpjpimahnnekkaaGreatY42
import Derived.Test.YtpjpimahnnekkaaGreatY34
import Derived.ProofKit
import Derived.OpenShut
import Derived.Deep.Slices
import Derived.Deep.Fields
namespace Go.Proofs.YtpjpimahnnekkaaGreat
open Go.ChangeShapes Go.WideShapes Go.ChangeAt Go.RowKit Go.Deep

section
variable {H : Type} {enc : TypeId × Value → H} {W : World}
theorem cells_rmsg : Tryz.prog.cellsOf 37 = 18 := by kernel_rfl
theorem cells_rtok : Tryz.prog.cellsOf 31 = 3 := by kernel_rfl
theorem cells_pred : Tryz.prog.cellsOf 24 = 1 := by kernel_rfl
set_option maxRecDepth 100000 in
theorem trod_rtok {n : Nat} {cs : List Value} {x : DataW H × List MemPlace} (h : Trd enc W n 31 cs x) :
  ∃ (a : Int) (b c : Nat), cs = [.int .i64 a, .int .u64 b, .int .u64 c] ∧ I64 a ∧ U64 b ∧ U64 c := by
 obtain ⟨xs, n', _, _, hlen, hl, hf⟩ := DataW.trod_struct Tryz.underlying31 h
 rw [cells_rtok] at hlen
 match cs, hlen with
 | [c0, c1, c2], _ =>
  obtain ⟨y0, g0⟩ := field_at hf hl 0 3 0 1 _ rfl rfl rfl cells_int
  obtain ⟨y1, g1⟩ := field_at hf hl 1 22 1 1 _ rfl rfl rfl cells_u64
  obtain ⟨y2, g2⟩ := field_at hf hl 2 22 2 1 _ rfl rfl rfl cells_u64
  obtain ⟨z0, e0, _, w0⟩ := DataW.trod_int Tryz.underlying3 g0
  obtain ⟨z1, e1, _, w1⟩ := DataW.trod_int Tryz.underlying22 g1
  obtain ⟨z2, e2, _, w2⟩ := DataW.trod_int Tryz.underlying22 g2
  simp only [List.drop_zero, List.drop_succ_cons, List.take_succ_cons, List.take_zero, List.cons.injEq, and_true] at e0 e1 e2
  subst e0 e1 e2
  have r1 := u64_range w1
  have r2 := u64_range w2
  obtain ⟨b, rfl⟩ := Int.eq_ofNat_of_zero_le r1.1
  obtain ⟨c, rfl⟩ := Int.eq_ofNat_of_zero_le r2.1
  exact ⟨z0, b, c, rfl, i64_range w0, by unfold U64; omega, by unfold U64; omega⟩
set_option maxRecDepth 100000 in
theorem trod_msg {n : Nat} {cs : List Value} {x : DataW H × List MemPlace} (h : Trd enc W n 37 cs x) :
  ∃ m : Ms, cs = m.cells ∧ m.fine W := by
 obtain ⟨xs, n', _, _, hlen, hl, hf⟩ := DataW.trod_struct Tryz.underlying37 h
 rw [cells_rmsg] at hlen
 match cs, hlen with
 | [c0, c1, c2, c3, c4, c5, c6, c7, c8, c9, c10, c11, c12, c13, c14, c15, c16, c17], _ =>
  obtain ⟨y0, g0⟩ := field_at hf hl 0 3 0 1 _ rfl rfl rfl cells_int
  obtain ⟨y1, g1⟩ := field_at hf hl 1 3 1 1 _ rfl rfl rfl cells_int
  obtain ⟨y2, g2⟩ := field_at hf hl 2 22 2 1 _ rfl rfl rfl cells_u64
  obtain ⟨y3, g3⟩ := field_at hf hl 3 4 3 1 _ rfl rfl rfl cells_bool
  obtain ⟨y4, g4⟩ := field_at hf hl 4 24 4 1 _ rfl rfl rfl cells_pred
  obtain ⟨y5, g5⟩ := field_at hf hl 5 29 5 4 _ rfl rfl rfl cells_item
  obtain ⟨y6, g6⟩ := field_at hf hl 6 31 9 3 _ rfl rfl rfl cells_rtok
  obtain ⟨y7, g7⟩ := field_at hf hl 7 22 12 1 _ rfl rfl rfl cells_u64
  obtain ⟨y8, g8⟩ := field_at hf hl 8 35 13 5 _ rfl rfl rfl cells_page
  obtain ⟨z0, e0, _, w0⟩ := DataW.trod_int Tryz.underlying3 g0
  obtain ⟨z1, e1, _, w1⟩ := DataW.trod_int Tryz.underlying3 g1
  obtain ⟨z2, e2, _, w2⟩ := DataW.trod_int Tryz.underlying22 g2
  obtain ⟨z3, e3, _⟩ := DataW.trod_bool Tryz.underlying4 g3
  obtain ⟨pv, ps, e4, p1, p2⟩ := trod_pred g4
  obtain ⟨it, e5, i1⟩ := trod_item g5
  obtain ⟨tb, tl, tc, e6, t1, t2, t3⟩ := trod_rtok g6
  obtain ⟨z7, e7, _, w7⟩ := DataW.trod_int Tryz.underlying22 g7
  obtain ⟨pg, e8, q1, _⟩ := trod_page g8
  simp only [List.drop_zero, List.drop_succ_cons, List.take_succ_cons, List.take_zero, List.cons.injEq, and_true, It.cells, Pg.cells] at e0 e1 e2 e3 e4 e5 e6 e7 e8
  have r2 := u64_range w2
  have r7 := u64_range w7
  obtain ⟨ver, rfl⟩ := Int.eq_ofNat_of_zero_le r2.1
  obtain ⟨frm, rfl⟩ := Int.eq_ofNat_of_zero_le r7.1
  obtain ⟨rfl, rfl, rfl, rfl⟩ := e5
  obtain ⟨rfl, rfl, rfl⟩ := e6
  obtain ⟨rfl, rfl, rfl, rfl, rfl⟩ := e8
  subst e0 e1 e2 e3 e4 e7
  exact ⟨⟨z0, z1, ver, z3, _, ps, it, tb, tl, tc, frm, pg⟩, rfl, ⟨p1, p2⟩, i1, q1, ⟨i64_range w0, i64_range w1, t1⟩, by show ver < _; omega, t2, t3, by show frm < _; omega⟩
set_option maxRecDepth 100000 in
theorem read_msg {base : Nat} {v : Value} {d : DataW H} {p : List MemPlace} (hv : Value.okWide Tryz.prog W .any base 37 v) (h : DataW.Trod enc Tryz.prog W 0 (fun _ => true) true 37 v d p) : ∃ x : Ms, v = .agg x.cells.toArray ∧ x.fine W := by
 obtain ⟨cs, rfl, hsz⟩ := okWide_struct Tryz.underlying37 hv
 obtain ⟨fuel, hf⟩ := h
 obtain ⟨x, hc, hx⟩ := trod_msg hf
 refine ⟨x, ?_, hx⟩
 simp only [Value.cells] at hc
 rw [← hc]
end
end Go.Proofs.YtpjpimahnnekkaaGreat
