/- DERIVED. Chapter 25: the walk of PagesKnown. (gen_qk.py wrote it) · The statement PagesKnown: for every input the law returns true, and the arguments read as they did. -/
import Derived.Test.YtiednihagnehlaaY24
import Derived.Test.YtiednihagnehlaaRows
import Derived.ProofKit
import Derived.OpenShut
import Derived.JoinedCond
import Derived.ChangeOld
namespace Go.Proofs.Ytiednihagnehlaa
open Go.RowKit

theorem len_no (v : Value) (w : World) (h : Calls Try.prog 28 #[v] w fun e w' => e = .returned (.bool true) ∧ w = w') : Calls Try.prog 13 #[v] w fun e w' => e = .returned (.int .i64 0) ∧ w = w' := by
 have C := Lib.hid h
 clear h
 go_enter Try.func13, Try.ntmps13
 go_wp2_with fail
 refine C.out.mono ?_
 rintro e w' ⟨rfl, rfl⟩
 go_wp2_with fail
 go_ret
 exact ⟨rfl, rfl⟩
def subMs : Ms := { zeroMs with kind := 2 }
theorem sub_bare : BareMs subMs := bare_of fun w => fine_nums (zero_fine w) 2 0 0 0 0 0 0 ⟨by unfold I64; decide, by unfold I64; decide, by unfold I64; decide⟩ ⟨by unfold U64; decide, by unfold U64; decide, by unfold U64; decide, by unfold U64; decide⟩ false
attribute [-go_sem] loadVar storeVar
set_option maxRecDepth 100000 in
theorem add_no (v : Value) (link : Int) (m : Ms) (w : World) (h : ∀ W, Old w W → Calls Try.prog 28 #[v] W fun e w' => e = .returned (.bool true) ∧ W = w') :
  Calls Try.prog 10 #[v, .int .i64 link, .agg m.cells.toArray] w fun e w' => e = .returned (.int .i64 2) ∧ Old w w' := by
 obtain ⟨Wa, hWa⟩ : ∃ W, w.alloc (.cells m.cells.toArray 43) = W := ⟨_, rfl⟩
 have ba : MAt Wa w.heap.size m := by rw [← hWa]; exact heap_alloc_new _ _
 have oa : Old w Wa := by rw [← hWa]; exact (Keeps.refl _ _).alloc _
 have sa : Wa.heap.size = w.heap.size + 1 := by rw [← hWa]; simp
 obtain ⟨Wb, hWb⟩ : ∃ W, Wa.alloc (.cells #[.int .i64 0, .int .u64 0, .int .u64 0] 37) = W := ⟨_, rfl⟩
 have bb : Wb.heap[Wa.heap.size]? = some (.cells #[.int .i64 0, .int .u64 0, .int .u64 0] 37 (0, 0)) := by rw [← hWb]; exact heap_alloc_new _ _
 have ob : Old Wa Wb := by rw [← hWb]; exact (Keeps.refl _ _).alloc _
 rw [sa] at bb
 obtain ⟨Wt, hstt, bt, kt⟩ := store_cells (o := 0) (ty := 37) bb #[.int .i64 m.tb, .int .u64 (m.tl : Int), .int .u64 (m.tc : Int)] (by simp) (by kernel_rfl) (by simp [Value.oneCell']) (putRange_whole (by simp))
 have ot : Old w Wt := (oa.trans ob).then kt (fun i hi e => by have := (oa.trans ob).size; omega)
 have l9 := load_sub (W := Wa) (b := w.heap.size) (o := 9) (cs := #[.int .i64 m.tb, .int .u64 (m.tl : Int), .int .u64 (m.tc : Int)]) (ty := 37) (by
  intro j v hv
  rcases j with _ | _ | _ | j <;> simp at hv
  all_goals (subst hv; simp [World.cell?, ba, Ms.cells])) Try.underlying37 rfl (by kernel_rfl)
 have C := Lib.hid (h Wt ot)
 have O := Lib.hid ot
 clear h ba oa bb ob bt kt ot
 go_enter Try.func10, Try.ntmps10
 go_wp2_with fail
 refine C.out.mono ?_
 rintro e w' ⟨rfl, rfl⟩
 go_wp2_with fail
 go_ret
 exact ⟨rfl, O.out⟩
theorem addP_kind {most : Nat} {P : List (Int × PMs)} {x : Int × PMs} (h : (x.2.kind == 5) = false) : addP most P x = (30, P) := by unfold addP; rw [h]; rfl

set_option maxRecDepth 100000 in
set_option maxHeartbeats 8000000 in
theorem walk_PagesKnown (w : World) : Calls Try.prog 5 #[] w fun e w' => e = .returned (.bool true) ∧ Below w.heap.size w w' := by
 have hnn := none_nil
 have NN := Lib.hid hnn
 have bz : (w.alloc (.cells #[.int .i64 0, .slice none 0 0] 82)).heap[w.heap.size]? = some (.cells #[.int .i64 0, .slice none 0 0] 82 (0, 0)) := heap_alloc_new _ _
 have oz : Old w (w.alloc (.cells #[.int .i64 0, .slice none 0 0] 82)) := (Keeps.refl _ _).alloc _
 obtain ⟨Wz, hWz⟩ : ∃ W, w.alloc (.cells #[.int .i64 0, .slice none 0 0] 82) = W := ⟨_, rfl⟩
 rw [hWz] at bz oz
 have NZ := Lib.hid (fun W (k : Old Wz W) => none_zero w.heap.size W (by have := (k.block _ (lt_of_heap bz) (fun f => f)).trans bz; simp [World.cell?, this]))
 have OZ := Lib.hid oz
 clear hnn bz oz
 go_enter Try.func5, Try.ntmps5
 go_wp2_with fail
 refine (next_no (.pointer none) _ (fun W _ => NN.out W)).mono ?_
 rintro e wa ⟨rfl, ka⟩
 obtain ⟨Wb, hWb⟩ : ∃ W, wa.alloc (.cells zeroMs.cells.toArray 43) = W := ⟨_, rfl⟩
 have bb : MAt Wb wa.heap.size zeroMs := by rw [← hWb]; exact heap_alloc_new _ _
 have ob : Old wa Wb := by rw [← hWb]; exact (Keeps.refl _ _).alloc _
 obtain ⟨W3, hst3, b3, kb3⟩ := store_msg bb zeroMs (MsO.zero wa 0).one
 have o3 : Old wa W3 := ob.then kb3 (fun i hi e => by omega)
 have OB := Lib.hid (ka.trans o3)
 change wa.alloc (.cells #[.int .i64 0, .int .i64 0, .int .u64 0, .bool false, .slice none 0 0, .int .u64 0, .int .u64 0, .string ⟨#[]⟩, .slice none 0 0, .int .i64 0, .int .u64 0, .int .u64 0, .int .u64 0, .int .u64 0, .int .u64 0, .slice none 0 0, .slice none 0 0, .bool false] 43) = Wb at hWb
 clear ka bb ob b3 kb3 o3
 go_wp2_with fail
 refine (new_no 0 _ (by decide)).mono ?_
 rintro e w' ⟨rfl, rfl⟩
 go_wp2_with fail
 refine (new_no 4097 _ (by decide)).mono ?_
 rintro e w' ⟨rfl, rfl⟩
 have C0 := Lib.hid (new_yes 1 W3 ⟨by decide, by decide⟩)
 go_wp2_with fail
 refine C0.out.mono ?_
 rintro e w0 ⟨qb, rfl, rfl, k1, hq1⟩
 have Q0 := Lib.hid (show QN W3 w0 W3.heap.size 1 [] from ⟨_, _, ⟨[], rfl, hq1 (fun _ => False) (fun _ f => f.elim)⟩, fun k hk => by subst hk; exact Nat.le_refl _, k1⟩)
 have T0 := Lib.hid (OB.out.trans k1)
 clear k1 hq1 C0
 go_wp2_with fail
 refine (ask_any 1 1 1 _ (by unfold I64; decide) (by unfold U64; decide) (by unfold U64; decide)).mono ?_
 rintro e v1 ⟨rfl, k⟩
 have Q1 := Lib.hid (Q0.out.old k)
 have T1 := Lib.hid (T0.out.trans k)
 clear k Q0 T0
 go_wp2_with fail
 refine (add_no (.pointer none) 0 (askMs 1 1 1) _ (fun W _ => NN.out W)).mono ?_
 rintro e v2 ⟨rfl, k⟩
 have Q2 := Lib.hid (Q1.out.old k)
 have T2 := Lib.hid (T1.out.trans k)
 clear k Q1 T1
 go_wp2_with fail
 refine (ask_any 1 1 1 _ (by unfold I64; decide) (by unfold U64; decide) (by unfold U64; decide)).mono ?_
 rintro e v3 ⟨rfl, k⟩
 have Q3 := Lib.hid (Q2.out.old k)
 have T3 := Lib.hid (T2.out.trans k)
 clear k Q2 T2
 have t := T3.out
 go_wp2_with fail
 refine (add_no (.pointer (some ⟨w.heap.size, 0, none⟩)) 0 (askMs 1 1 1) _ (fun W k => NZ.out W (t.trans k))).mono ?_
 rintro e v4 ⟨rfl, k⟩
 have Q4 := Lib.hid (Q3.out.old k)
 have T4 := Lib.hid (T3.out.trans k)
 clear k Q3 T3
 clear t
 go_wp2_with fail
 refine (drop_no (.pointer none) 1 9 _ NN.out).mono ?_
 rintro e v5 ⟨rfl, k⟩
 have Q5 := Lib.hid (Q4.out.old k)
 have T5 := Lib.hid (T4.out.trans k)
 clear k Q4 T4
 have t := T5.out
 go_wp2_with fail
 refine (forget_no (.pointer (some ⟨w.heap.size, 0, none⟩)) 0 _ (fun W k => NZ.out W (t.trans k))).mono ?_
 rintro e v6 ⟨rfl, k⟩
 have Q6 := Lib.hid (Q5.out.old k)
 have T6 := Lib.hid (T5.out.trans k)
 clear k Q5 T5
 clear t
 go_wp2_with fail
 refine (len_no (.pointer none) _ (NN.out _)).mono ?_
 rintro e w' ⟨rfl, rfl⟩
 go_wp2_with fail
 refine (copy_no (.pointer (some ⟨w.heap.size, 0, none⟩)) _ (NZ.out _ T6.out)).mono ?_
 rintro e w' ⟨rfl, rfl⟩
 obtain ⟨R6, S6, hq6, hR6, ho6⟩ := Q6.out
 have A6 := Lib.hid (add_q 0 (subMs) hq6 (by decide) (by decide) (sub_bare S6 _))
 have hv6 : addP 1 [] (0, subMs.plain) = (30, []) := by exact addP_kind rfl
 have Y6 := Lib.hid (And.intro hR6 (And.intro ho6 hv6))
 clear hq6 hR6 ho6 hv6
 go_wp2_with fail
 refine A6.out.mono ?_
 rintro e v7 h
 obtain ⟨he, hq⟩ := QN.add Y6.out.1 Y6.out.2.1 h
 rw [Y6.out.2.2] at he hq
 dsimp only at he hq
 subst he
 have Q7 := Lib.hid hq
 clear h hq A6 Q6
 go_wp2_with fail
 refine (ask_any 1 0 1 _ (by unfold I64; decide) (by unfold U64; decide) (by unfold U64; decide)).mono ?_
 rintro e wa7 ⟨rfl, k7⟩
 obtain ⟨R7, S7, hq7, hR7, ho7⟩ := Q7.out.old k7
 have A7 := Lib.hid (add_q 0 (askMs 1 0 1) hq7 (by decide) (by decide) (ask_bare 1 0 1 (by unfold I64; decide) (by unfold U64; decide) (by unfold U64; decide) S7 _))
 have hv7 : addP 1 [] (0, pAsk 1 0 1) = (30, []) := by rw [addP_ask]; rfl
 have Y7 := Lib.hid (And.intro hR7 (And.intro ho7 hv7))
 clear hq7 hR7 ho7 hv7 k7
 go_wp2_with fail
 refine A7.out.mono ?_
 rintro e v8 h
 obtain ⟨he, hq⟩ := QN.add Y7.out.1 Y7.out.2.1 h
 rw [Y7.out.2.2] at he hq
 dsimp only at he hq
 subst he
 have Q8 := Lib.hid hq
 clear h hq A7 Q7
 go_wp2_with fail
 refine (ask_any 1 1 1 _ (by unfold I64; decide) (by unfold U64; decide) (by unfold U64; decide)).mono ?_
 rintro e wa8 ⟨rfl, k8⟩
 obtain ⟨R8, S8, hq8, hR8, ho8⟩ := Q8.out.old k8
 have A8 := Lib.hid (add_q 0 (askMs 1 1 1) hq8 (by decide) (by decide) (ask_bare 1 1 1 (by unfold I64; decide) (by unfold U64; decide) (by unfold U64; decide) S8 _))
 have hv8 : addP 1 [] (0, pAsk 1 1 1) = (0, [(0, pAsk 1 1 1)]) := by rw [addP_ask]; rfl
 have Y8 := Lib.hid (And.intro hR8 (And.intro ho8 hv8))
 clear hq8 hR8 ho8 hv8 k8
 go_wp2_with fail
 refine A8.out.mono ?_
 rintro e v9 h
 obtain ⟨he, hq⟩ := QN.add Y8.out.1 Y8.out.2.1 h
 rw [Y8.out.2.2] at he hq
 dsimp only at he hq
 subst he
 have Q9 := Lib.hid hq
 clear h hq A8 Q8
 go_wp2_with fail
 refine (ask_any 2 1 1 _ (by unfold I64; decide) (by unfold U64; decide) (by unfold U64; decide)).mono ?_
 rintro e wa9 ⟨rfl, k9⟩
 obtain ⟨R9, S9, hq9, hR9, ho9⟩ := Q9.out.old k9
 have A9 := Lib.hid (add_q 0 (askMs 2 1 1) hq9 (by decide) (by decide) (ask_bare 2 1 1 (by unfold I64; decide) (by unfold U64; decide) (by unfold U64; decide) S9 _))
 have hv9 : addP 1 [(0, pAsk 1 1 1)] (0, pAsk 2 1 1) = (7, [(0, pAsk 1 1 1)]) := by rw [addP_ask]; rfl
 have Y9 := Lib.hid (And.intro hR9 (And.intro ho9 hv9))
 clear hq9 hR9 ho9 hv9 k9
 go_wp2_with fail
 refine A9.out.mono ?_
 rintro e v10 h
 obtain ⟨he, hq⟩ := QN.add Y9.out.1 Y9.out.2.1 h
 rw [Y9.out.2.2] at he hq
 dsimp only at he hq
 subst he
 have Q10 := Lib.hid hq
 clear h hq A9 Q9
 go_wp2_with fail
 refine (ask_any 1 2 1 _ (by unfold I64; decide) (by unfold U64; decide) (by unfold U64; decide)).mono ?_
 rintro e wa10 ⟨rfl, k10⟩
 obtain ⟨R10, S10, hq10, hR10, ho10⟩ := Q10.out.old k10
 have A10 := Lib.hid (add_q 0 (askMs 1 2 1) hq10 (by decide) (by decide) (ask_bare 1 2 1 (by unfold I64; decide) (by unfold U64; decide) (by unfold U64; decide) S10 _))
 have hv10 : addP 1 [(0, pAsk 1 1 1)] (0, pAsk 1 2 1) = (0, [(0, pAsk 1 2 1)]) := by rw [addP_ask]; rfl
 have Y10 := Lib.hid (And.intro hR10 (And.intro ho10 hv10))
 clear hq10 hR10 ho10 hv10 k10
 go_wp2_with fail
 refine A10.out.mono ?_
 rintro e v11 h
 obtain ⟨he, hq⟩ := QN.add Y10.out.1 Y10.out.2.1 h
 rw [Y10.out.2.2] at he hq
 dsimp only at he hq
 subst he
 have Q11 := Lib.hid hq
 clear h hq A10 Q10
 go_wp2_with fail
 obtain ⟨R, S, ⟨L, hL, hq⟩, _, _⟩ := Q11.out
 have hl := congrArg List.length hL
 rw [List.length_map] at hl
 refine (len_q hq (by decide)).mono ?_
 rintro e w' ⟨rfl, rfl⟩
 rw [hl]
 clear hL hq hl
 obtain ⟨R11, S11, hq11, hR11, ho11⟩ := Q11.out
 have A11 := Lib.hid (drop_q 1 2 hq11 (by decide))
 have Y11 := Lib.hid (And.intro hR11 ho11)
 clear hq11 hR11 ho11
 go_wp2_with fail
 refine A11.out.mono ?_
 rintro e v12 ⟨rfl, hq, hk⟩
 have hz : (([(0, pAsk 1 2 1)] : List (Int × PMs)).length - (([(0, pAsk 1 2 1)] : List (Int × PMs)).filter fun y => !dropP 1 2 y).length) = 0 := rfl
 have hz2 : (([(0, pAsk 1 2 1)] : List (Int × PMs)).filter fun y => !dropP 1 2 y) = [(0, pAsk 1 2 1)] := rfl
 rw [hz]
 rw [hz2] at hq
 have Q12 := Lib.hid (show QN W3 v12 W3.heap.size 1 [(0, pAsk 1 2 1)] from ⟨_, _, hq, Y11.out.1, Y11.out.2.then hk (fun i hi hr => by have := Y11.out.1 i hr; omega)⟩)
 clear hq hk hz hz2 A11 Q11
 obtain ⟨R12, S12, hq12, hR12, ho12⟩ := Q12.out
 have A12 := Lib.hid (drop_q 1 3 hq12 (by decide))
 have Y12 := Lib.hid (And.intro hR12 ho12)
 clear hq12 hR12 ho12
 go_wp2_with fail
 refine A12.out.mono ?_
 rintro e v13 ⟨rfl, hq, hk⟩
 have hz : (([(0, pAsk 1 2 1)] : List (Int × PMs)).length - (([(0, pAsk 1 2 1)] : List (Int × PMs)).filter fun y => !dropP 1 3 y).length) = 1 := rfl
 have hz2 : (([(0, pAsk 1 2 1)] : List (Int × PMs)).filter fun y => !dropP 1 3 y) = [] := rfl
 rw [hz]
 rw [hz2] at hq
 have Q13 := Lib.hid (show QN W3 v13 W3.heap.size 1 [] from ⟨_, _, hq, Y12.out.1, Y12.out.2.then hk (fun i hi hr => by have := Y12.out.1 i hr; omega)⟩)
 clear hq hk hz hz2 A12 Q12
 go_wp2_with fail
 refine (pwakes_any _).mono ?_
 rintro e v14 ⟨rfl, k⟩
 have F := Lib.hid ((Q13.out.old k).to)
 clear k
 go_wp2_with fail
 go_ret
 exact ⟨rfl, Old.below (OZ.out.trans (OB.out.trans F.out))⟩
end Go.Proofs.Ytiednihagnehlaa

namespace Go.Proofs.Ytiednihagnehlaa.pagesKnown
open Go.ChangeShapes Go.WideShapes Go.ChangeAt Go.RowKit
theorem own : ownKnob Try.prog.godebug = none := by kernel_rfl
theorem laidOut : laidOutB Try.prog = true := by kernel_rfl

set_option maxRecDepth 100000 in
theorem lifted (os : Os) (started : os.Started) (H : Type) (enc : TypeId × Value → H) :
  ReturnsInHanded {} Try.checked os 5 .any (Rows.pagesKnownSpec.pre6 enc Try.prog Try.f5 Rows.pagesKnownRow.domain false) (Rows.pagesKnownSpec.post enc Try.prog Try.f5 false true false false) := by
 refine returnsInHanded_of_change (C := Try.checked) own started (by kernel_rfl) Try.func5
  (ChangeSpec.witness6 (enc := enc) (C := Try.checked) false ⟨#[], #[], []⟩ 8 (by kernel_rfl) (by kernel_rfl) (by kernel_rfl) (by kernel_rfl)) ?_
 intro W base args ds gs before hval0 hW _ _
 have hval : ∀ (j : Nat) t v, Try.f5.params[j]? = some t → args[j]? = some v → Value.okWide Try.prog W .any base t v := hval0
 have hW' := hW
 obtain ⟨p, q, hA0, hV, rfl, hfz, hnd⟩ := hW
 have hA : DataW.TrodAll enc Try.prog W 0 (fun _ => true) true Try.f5.params.toList args.toList ds p := hA0
 rw [Try.params5] at hA hval
 obtain ⟨rfl, rfl, rfl⟩ := trodAll_none hA
 obtain ⟨rfl, rfl⟩ := trodVars_none hV
 clear hA0 hval0
 refine (walk_PagesKnown W).mono fun e W' ⟨he, bel⟩ => ?_
 subst he
 exact ⟨_, rfl, _, _, _, [], _, [], hW', trodAll_mk1 (shut_bool Try.underlying4 _), trodAll_mk0, rfl, bel.frame _, fun h => by cases h⟩

theorem proved : Rows.PagesKnownSaid :=
 OpenClaim.holds_of_wide 5 Try.f5 rfl rfl rfl rfl rfl rfl rfl ⟨rfl, rfl, rfl, rfl, rfl⟩ rfl rfl rfl rfl rfl (by kernel_rfl) Try.func5 (by kernel_rfl)
  (of_decide_eq_true (by kernel_rfl)) (by unfold Func.isWrapper; first | (rw [if_pos (by decide +kernel)]; kernel_rfl) | (rw [if_neg (by decide +kernel)]; exact ⟨rfl, rfl⟩))
  (fun os started H enc _ => lifted os started H enc)
end Go.Proofs.Ytiednihagnehlaa.pagesKnown
