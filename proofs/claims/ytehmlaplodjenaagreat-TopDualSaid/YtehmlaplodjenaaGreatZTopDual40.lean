/- DERIVED. How lists of events, of predicates among the arguments read. · The statement TopDual: for every input the law returns true, and the arguments read as they did. -/
import Derived.Test.YtehmlaplodjenaaGreatRows
import Derived.Test.YtehmlaplodjenaaGreatYpTopDual05
import Derived.Test.YtehmlaplodjenaaGreatZTopDual39
import Derived.ProofKit
import Derived.OpenShut
import Derived.Deep.Slices
import Derived.Deep.Fields
import Derived.JoinedCond
import Derived.ChangeOld
set_option maxRecDepth 100000
namespace Go.Proofs.YtehmlaplodjenaaGreat
section
open Go.ChangeShapes Go.WideShapes Go.ChangeAt Go.RowKit Go.Deep
section
variable {H : Type} {enc : TypeId × Value → H} {W : World}
theorem cells_pred1 : Tryz.prog.cellsOf 39 = 1 := by kernel_rfl
instance : Inhabited EvT := ⟨(⟨#[]⟩, .slice none 0 0, [])⟩
instance : Inhabited (Value × List Con) := ⟨(.slice none 0 0, [])⟩
theorem read_events {base : Nat} {v : Value} {d : DataW H} {p : List MemPlace} (hv : Value.okWide Tryz.prog W .any base 22 v) (h : DataW.Trod enc Tryz.prog W 0 (fun _ => true) true 22 v d p) :
  ∃ Es : List EvT, SeesR W 2 evL v Es ∧ ∀ t ∈ Es, SeesA W t.2.1 t.2.2 ∧ Fits t.2.2 := by
 obtain ⟨a, len, cap, rfl⟩ := okWide_slice Tryz.underlying22 hv
 obtain ⟨fuel, hf⟩ := h
 obtain ⟨v, l, hc, hs, hq, _⟩ := trod_rows evL 2 33 22 Tryz.underlying22 cells_event (by decide) (fun t : EvT => SeesA W t.2.1 t.2.2 ∧ Fits t.2.2) (fun n cs x hh => by
  obtain ⟨key, u, l, e, h1, h2, _⟩ := trod_event hh
  exact ⟨(key, u, l), e, h1, h2⟩) hf
 simp only [Value.cells, List.cons.injEq, and_true] at hc
 subst hc
 exact ⟨l, hs, hq⟩
theorem read_preds {base : Nat} {v : Value} {d : DataW H} {p : List MemPlace} (hv : Value.okWide Tryz.prog W .any base 23 v) (h : DataW.Trod enc Tryz.prog W 0 (fun _ => true) true 23 v d p) :
  ∃ Ps : List (Value × List Con), SeesR W 1 pdL v Ps ∧ ∀ t ∈ Ps, Cons W t.1 t.2 := by
 obtain ⟨a, len, cap, rfl⟩ := okWide_slice Tryz.underlying23 hv
 obtain ⟨fuel, hf⟩ := h
 obtain ⟨v, l, hc, hs, hq, _⟩ := trod_rows pdL 1 39 23 Tryz.underlying23 cells_pred1 (by decide) (fun t : Value × List Con => Cons W t.1 t.2) (fun n cs x hh => by
  obtain ⟨u, l, e, h1, _⟩ := trod_pred hh
  exact ⟨(u, l), e, h1⟩) hf
 simp only [Value.cells, List.cons.injEq, and_true] at hc
 subst hc
 exact ⟨l, hs, hq⟩
theorem walk_TopDual (enc : TypeId × Value → H) (W : World) (base : Nat) {v0 v1 : Value} {d0 d1 : DataW H} {p0 p1 : List MemPlace}
  (hv0 : Value.okWide Tryz.prog W .any base 22 v0) (h0 : DataW.Trod enc Tryz.prog W 0 (fun _ => true) true 22 v0 d0 p0)
  (hv1 : Value.okWide Tryz.prog W .any base 23 v1) (h1 : DataW.Trod enc Tryz.prog W 0 (fun _ => true) true 23 v1 d1 p1) :
  Calls Tryz.prog 3 #[v0, v1] W fun e W' => e = .returned (.bool true) ∧ Below W.heap.size W W' := by
 obtain ⟨Es, he, hea⟩ := read_events hv0 h0
 obtain ⟨Ps, hp, hpc⟩ := read_preds hv1 h1
 exact (dual_any _ _ Es Ps W he hea hp hpc).mono fun e W' h => ⟨h.1, Old.below h.2⟩
end
end
end Go.Proofs.YtehmlaplodjenaaGreat
namespace Go.Proofs.YtehmlaplodjenaaGreat.topDual
open Go.ChangeShapes Go.WideShapes Go.ChangeAt Go.RowKit
theorem own : ownKnob Tryz.prog.godebug = none := by kernel_rfl
theorem laidOut : laidOutB Tryz.prog = true := by kernel_rfl
theorem lifted (os : Os) (started : os.Started) (H : Type) (enc : TypeId × Value → H) :
  ReturnsInHanded {} Tryz.checked os 3 .any (Rows.topDualSpec.pre6 enc Tryz.prog Tryz.f3 Rows.topDualRow.domain false) (Rows.topDualSpec.post enc Tryz.prog Tryz.f3 false true false false) := by
 refine returnsInHanded_of_change (C := Tryz.checked) own started (by kernel_rfl) Tryz.func3
  (ChangeSpec.witness6 (enc := enc) (C := Tryz.checked) false ⟨#[], #[.slice none 0 0, .slice none 0 0], []⟩ 8 (by kernel_rfl) (by kernel_rfl) (by kernel_rfl) (by kernel_rfl)) ?_
 intro W base args ds gs before hval0 hW _ _
 have hval : ∀ (j : Nat) t v, Tryz.f3.params[j]? = some t → args[j]? = some v → Value.okWide Tryz.prog W .any base t v := hval0
 have hW' := hW
 obtain ⟨p, q, hA0, hV, rfl, hfz, hnd⟩ := hW
 have hA : DataW.TrodAll enc Tryz.prog W 0 (fun _ => true) true Tryz.f3.params.toList args.toList ds p := hA0
 rw [Tryz.params3] at hA hval
 obtain ⟨v0, vs0, d0, ds0, p0, q0, hargs, rfl, rfl, h0, r0⟩ := trodAll_cons hA
 obtain ⟨v1, vs1, d1, ds1, p1, q1, rfl, rfl, rfl, h1, r1⟩ := trodAll_cons r0
 obtain ⟨rfl, rfl, rfl⟩ := trodAll_nil r1
 obtain rfl : args = #[v0, v1] := by cases args; simp_all
 obtain ⟨rfl, rfl⟩ := trodVars_none hV
 have lt0 : ∀ x ∈ p0, x.block < W.heap.size := by obtain ⟨m, hm⟩ := h0; exact DataW.trod_lt m _ _ _ hm
 have lt1 : ∀ x ∈ p1, x.block < W.heap.size := by obtain ⟨m, hm⟩ := h1; exact DataW.trod_lt m _ _ _ hm
 clear hA0 hval0
 refine (walk_TopDual enc W base (hval 0 22 v0 rfl rfl) h0 (hval 1 23 v1 rfl rfl) h1).mono fun e W' ⟨he, bel⟩ => ?_
 subst he
 exact ⟨_, rfl, _, _, _, [], _, [], hW', trodAll_mk1 (shut_bool Tryz.underlying4 _), (trodAll_cons_mk (Below.trod laidOut (by kernel_rfl) (of_decide_eq_true (by kernel_rfl)) h0 bel lt0) (trodAll_cons_mk (Below.trod laidOut (by kernel_rfl) (of_decide_eq_true (by kernel_rfl)) h1 bel lt1) trodAll_mk0)), rfl, bel.frame _, fun h => by cases h⟩
theorem proved : Rows.TopDualSaid :=
 OpenClaim.holds_of_wide 3 Tryz.f3 rfl rfl rfl rfl rfl rfl rfl ⟨rfl, rfl, rfl, rfl, rfl⟩ rfl rfl rfl rfl rfl (by kernel_rfl) Tryz.func3 (by kernel_rfl)
  (of_decide_eq_true (by kernel_rfl)) (by unfold Func.isWrapper; first | (rw [if_pos (by decide +kernel)]; kernel_rfl) | (rw [if_neg (by decide +kernel)]; exact ⟨rfl, rfl⟩))
  (fun os started H enc _ => lifted os started H enc)
end Go.Proofs.YtehmlaplodjenaaGreat.topDual
