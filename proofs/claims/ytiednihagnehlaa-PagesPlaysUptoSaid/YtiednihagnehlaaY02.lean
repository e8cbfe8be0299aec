/- DERIVED. Chapter 21: maps that a call makes, at constant keys; msg.parts. · DERIVED. Plain: forms of numbers, and how they are read. No program in sight. · DERIVED. The contracts of the writers of package wire. · DERIVED. bytes.Clone, bytes.Equal, wire.zag (as in chapter 3, where the document's wire stands beside). · DERIVED. The contract of wire.Reader's Num. · DERIVED. The contracts of wire.Reader's Int and Bytes. -/
import Derived.Test.YtiednihagnehlaaY01
import Derived.Great.Walk
import Derived.MapKept
import Derived.Deep.DeepCutAuto
import Derived.Laws.BitsLemmas
import Derived.Laws.Bits64
import Derived.Defers
import Derived.Deep.RegionHeld3
import Derived.Deep.RegionWith
import Derived.Deep.RegionLaw
namespace Go.Proofs.Ytiednihagnehlaa
open Go.RowKit Go.Great

theorem map_put {P : Program} {w : World} {m : Nat} {es : Array MapEntry} {cl : Nat} {T kt et : TypeId} {d : TypeDesc} {k : Value} (hu : P.underlying T = some (.map kt et)) (hk : P.underlying kt = some d) (hkey : MapKept.IsKey d k) (hm : w.heap[m]? = some (.map es cl)) (v : Value)
  (hf : Instr.findNow d k es.toList 0 = some none) :
  ∃ w', (Instr.mapUpdate T (.map (some m)) k v).run P w = .ok () w' ∧ w'.heap[m]? = some (.map (es.push ⟨k, v, cl⟩) (cl + 1)) ∧ Keeps (fun i => i = m) w w' := by
 have hlt : m < w.heap.size := (Array.getElem?_eq_some_iff.1 hm).1
 refine ⟨{ w with heap := w.heap.setIfInBounds m (.map (es.push ⟨k, v, cl⟩) (cl + 1)) }, ?_, ?_, ?_⟩
 ·simp [Instr.mapUpdate, run_underlying hu, MapKept.run_getObj_map hm, MapKept.run_checkKey hk hkey, MapKept.run_findKey hk hf, MapKept.run_setObj_map _ hm, Result.andThen]
 ·simp [hlt]
 ·exact ⟨rfl, rfl, rfl, by simp, fun i _ hi => by simp [Ne.symm hi]⟩
theorem map_get {P : Program} {w : World} {m : Nat} {es : Array MapEntry} {cl : Nat} {T kt et : TypeId} {d : TypeDesc} {k : Value} (hu : P.underlying T = some (.map kt et)) (hk : P.underlying kt = some d) (hkey : MapKept.IsKey d k) (hm : w.heap[m]? = some (.map es cl)) {z : Value} (hz : (zeroValue et).run P w = .ok z w)
  {r : Option (Nat × Value)} (hf : Instr.findNow d k es.toList 0 = some r) :
  (Instr.lookup T (.map (some m)) k false).run P w = .ok (r.elim z (·.2)) w := by
 cases r with
 | none => simp [Instr.lookup, run_underlying hu, MapKept.run_getObj_map hm, MapKept.run_checkKey hk hkey, MapKept.run_findKey hk hf, hz, Result.andThen]
 | some x => simp [Instr.lookup, run_underlying hu, MapKept.run_getObj_map hm, MapKept.run_checkKey hk hkey, MapKept.run_findKey hk hf, Result.andThen]
theorem wpList_skipTo {P : Program} {ops : Array Oper} {rest : List Oper} {o : Oper} {a : Act} {w : World} {Q : Exit → Act → World → Prop} (hg : o.guard = none) (w' : World) (hrun : (execOp a.eval o).run P w = .ok .skip w')
  (h : wpList P ops Q rest (a.put o.dst undef) w') : wpList P ops Q (o :: rest) a w := by
 refine wpList_plain hg fun K hK => ?_
 unfold Oper.wp
 rw [hrun, Oper.upon_skip]
 exact hK _ _ h
theorem run_insert_op {P : Program} {T : TypeId} {p k v : Value} {w w' : World} (h : (Instr.mapUpdate T p k v).run P w = .ok () w') {ρ : Operand → Value} {o : Oper} {x y z : Operand} (ho : o.op = .insert T x y z) (hx : ρ x = p) (hy : ρ y = k) (hz : ρ z = v) : (execOp ρ o).run P w = .ok .skip w' := by
 subst hx hy hz
 unfold execOp
 rw [ho]
 simp only [Sem.run_bind, Sem.run_pure, h, Result.andThen]
theorem run_lookup_op {P : Program} {T : TypeId} {p k v : Value} {w w' : World} (h : (Instr.lookup T p k false).run P w = .ok v w') {ρ : Operand → Value} {o : Oper} {x y : Operand} (ho : o.op = .lookup T x y false) (hx : ρ x = p) (hy : ρ y = k) : (execOp ρ o).run P w = .ok (.value v) w' := by
 subst hx hy
 unfold execOp
 rw [ho]
 simp only [Sem.run_bind, Sem.run_pure, h, Result.andThen]

def intL (z : Int) : List Value := [.int .i64 z]
/-- the parts that a Kind tells -/
def partsL (k : Int) : List Int := if k = 1 then [0, 1, 2, 3] else if k = 2 then [3] else if k = 3 then [3] else if k = 4 then [0, 4] else if k = 5 then [5, 0, 3, 6] else if k = 6 then [5, 0, 7] else []
set_option maxRecDepth 100000 in
set_option maxHeartbeats 2000000 in
theorem parts_any (k : Int) (w : World) : Calls Try.prog 32 #[.int .i64 k] w fun e w' => ∃ p n c, e = .returned (.slice p n c) ∧ SeesR w' 1 intL (.slice p n c) (partsL k) ∧ Old w w' := by
 go_enter Try.func32, Try.ntmps32
 go_upto_region 1 with fail
 refine wp_region_lit ?_
 obtain ⟨m, hmm⟩ : ∃ m, w.heap.size = m := ⟨_, rfl⟩
 refine wpList_runTo rfl (some 3) rfl (.map (some w.heap.size)) (w.alloc (.map #[] 0)) (by kernel_rfl) ?_
 obtain ⟨I0, hI0⟩ : ∃ W, w.alloc (.map #[] 0) = W := ⟨_, rfl⟩
 have b0 : I0.heap[w.heap.size]? = some (.map #[] 0) := by rw [← hI0]; exact heap_alloc_new _ _
 have o0 : Old w I0 := by rw [← hI0]; exact (Keeps.refl _ _).alloc _
 rw [hI0]
 clear hI0
 have z0 : w.heap.size < I0.heap.size := (Array.getElem?_eq_some_iff.1 b0).1
 refine wpList_runTo rfl (some 4) rfl (.slice (some ⟨I0.heap.size, 0, none⟩) 4 4) (I0.alloc (.cells #[.int .i64 0, .int .i64 1, .int .i64 2, .int .i64 3] 3)) (by kernel_rfl) ?_
 obtain ⟨A1, hA1⟩ : ∃ W, I0.alloc (.cells #[.int .i64 0, .int .i64 1, .int .i64 2, .int .i64 3] 3) = W := ⟨_, rfl⟩
 have oA1 : Old I0 A1 := by rw [← hA1]; exact (Keeps.refl _ _).alloc _
 have s1 : SeesR A1 1 intL (.slice (some ⟨I0.heap.size, 0, none⟩) 4 4) [0, 1, 2, 3] := by rw [← hA1]; exact SeesR.new (k := 1) (enc := intL) I0 _ (0, 0) [0, 1, 2, 3] _ (by rfl) (fun _ => rfl) (by unfold maxLen; simp)
 rw [hA1]
 clear hA1
 have c1 := (oA1.block _ z0 (fun f => f)).trans b0
 obtain ⟨I1, r1, b1, kk1⟩ := map_put (P := Try.prog) (k := .int .i64 1) Try.underlying106 Try.underlying3 rfl c1 (.slice (some ⟨I0.heap.size, 0, none⟩) 4 4) (by rfl)
 refine wpList_skipTo rfl I1 (run_insert_op (x := .tmp 3) (y := .const (.int .i64 1)) (z := .tmp 4) r1 rfl (by kernel_rfl) (by kernel_rfl) (by kernel_rfl)) ?_
 have z1 : w.heap.size < I1.heap.size := (Array.getElem?_eq_some_iff.1 b1).1
 have o1 : Old w I1 := (o0.trans oA1).then kk1 (fun i hi e => by omega)
 have h1 := s1.keeps kk1 (fun b hb e => by simp [Value.ownBlock] at hb; omega)
 have y1 := oA1.size
 clear c1 r1 s1
 refine wpList_runTo rfl (some 5) rfl (.slice (some ⟨I1.heap.size, 0, none⟩) 1 1) (I1.alloc (.cells #[.int .i64 3] 3)) (by kernel_rfl) ?_
 obtain ⟨A2, hA2⟩ : ∃ W, I1.alloc (.cells #[.int .i64 3] 3) = W := ⟨_, rfl⟩
 have oA2 : Old I1 A2 := by rw [← hA2]; exact (Keeps.refl _ _).alloc _
 have s2 : SeesR A2 1 intL (.slice (some ⟨I1.heap.size, 0, none⟩) 1 1) [3] := by rw [← hA2]; exact SeesR.new (k := 1) (enc := intL) I1 _ (0, 0) [3] _ (by rfl) (fun _ => rfl) (by unfold maxLen; simp)
 rw [hA2]
 clear hA2
 have c2 := (oA2.block _ z1 (fun f => f)).trans b1
 obtain ⟨I2, r2, b2, kk2⟩ := map_put (P := Try.prog) (k := .int .i64 2) Try.underlying106 Try.underlying3 rfl c2 (.slice (some ⟨I1.heap.size, 0, none⟩) 1 1) (by rfl)
 refine wpList_skipTo rfl I2 (run_insert_op (x := .tmp 3) (y := .const (.int .i64 2)) (z := .tmp 5) r2 rfl (by kernel_rfl) (by kernel_rfl) (by kernel_rfl)) ?_
 have z2 : w.heap.size < I2.heap.size := (Array.getElem?_eq_some_iff.1 b2).1
 have o2 : Old w I2 := (o1.trans oA2).then kk2 (fun i hi e => by omega)
 have h2 := s2.keeps kk2 (fun b hb e => by simp [Value.ownBlock] at hb; omega)
 have y2 := oA2.size
 have h1 := (h1.old oA2).keeps kk2 (fun b hb e => by simp [Value.ownBlock] at hb; omega)
 clear c2 r2 s2
 refine wpList_runTo rfl (some 6) rfl (.slice (some ⟨I2.heap.size, 0, none⟩) 1 1) (I2.alloc (.cells #[.int .i64 3] 3)) (by kernel_rfl) ?_
 obtain ⟨A3, hA3⟩ : ∃ W, I2.alloc (.cells #[.int .i64 3] 3) = W := ⟨_, rfl⟩
 have oA3 : Old I2 A3 := by rw [← hA3]; exact (Keeps.refl _ _).alloc _
 have s3 : SeesR A3 1 intL (.slice (some ⟨I2.heap.size, 0, none⟩) 1 1) [3] := by rw [← hA3]; exact SeesR.new (k := 1) (enc := intL) I2 _ (0, 0) [3] _ (by rfl) (fun _ => rfl) (by unfold maxLen; simp)
 rw [hA3]
 clear hA3
 have c3 := (oA3.block _ z2 (fun f => f)).trans b2
 obtain ⟨I3, r3, b3, kk3⟩ := map_put (P := Try.prog) (k := .int .i64 3) Try.underlying106 Try.underlying3 rfl c3 (.slice (some ⟨I2.heap.size, 0, none⟩) 1 1) (by rfl)
 refine wpList_skipTo rfl I3 (run_insert_op (x := .tmp 3) (y := .const (.int .i64 3)) (z := .tmp 6) r3 rfl (by kernel_rfl) (by kernel_rfl) (by kernel_rfl)) ?_
 have z3 : w.heap.size < I3.heap.size := (Array.getElem?_eq_some_iff.1 b3).1
 have o3 : Old w I3 := (o2.trans oA3).then kk3 (fun i hi e => by omega)
 have h3 := s3.keeps kk3 (fun b hb e => by simp [Value.ownBlock] at hb; omega)
 have y3 := oA3.size
 have h1 := (h1.old oA3).keeps kk3 (fun b hb e => by simp [Value.ownBlock] at hb; omega)
 have h2 := (h2.old oA3).keeps kk3 (fun b hb e => by simp [Value.ownBlock] at hb; omega)
 clear c3 r3 s3
 refine wpList_runTo rfl (some 7) rfl (.slice (some ⟨I3.heap.size, 0, none⟩) 2 2) (I3.alloc (.cells #[.int .i64 0, .int .i64 4] 3)) (by kernel_rfl) ?_
 obtain ⟨A4, hA4⟩ : ∃ W, I3.alloc (.cells #[.int .i64 0, .int .i64 4] 3) = W := ⟨_, rfl⟩
 have oA4 : Old I3 A4 := by rw [← hA4]; exact (Keeps.refl _ _).alloc _
 have s4 : SeesR A4 1 intL (.slice (some ⟨I3.heap.size, 0, none⟩) 2 2) [0, 4] := by rw [← hA4]; exact SeesR.new (k := 1) (enc := intL) I3 _ (0, 0) [0, 4] _ (by rfl) (fun _ => rfl) (by unfold maxLen; simp)
 rw [hA4]
 clear hA4
 have c4 := (oA4.block _ z3 (fun f => f)).trans b3
 obtain ⟨I4, r4, b4, kk4⟩ := map_put (P := Try.prog) (k := .int .i64 4) Try.underlying106 Try.underlying3 rfl c4 (.slice (some ⟨I3.heap.size, 0, none⟩) 2 2) (by rfl)
 refine wpList_skipTo rfl I4 (run_insert_op (x := .tmp 3) (y := .const (.int .i64 4)) (z := .tmp 7) r4 rfl (by kernel_rfl) (by kernel_rfl) (by kernel_rfl)) ?_
 have z4 : w.heap.size < I4.heap.size := (Array.getElem?_eq_some_iff.1 b4).1
 have o4 : Old w I4 := (o3.trans oA4).then kk4 (fun i hi e => by omega)
 have h4 := s4.keeps kk4 (fun b hb e => by simp [Value.ownBlock] at hb; omega)
 have y4 := oA4.size
 have h1 := (h1.old oA4).keeps kk4 (fun b hb e => by simp [Value.ownBlock] at hb; omega)
 have h2 := (h2.old oA4).keeps kk4 (fun b hb e => by simp [Value.ownBlock] at hb; omega)
 have h3 := (h3.old oA4).keeps kk4 (fun b hb e => by simp [Value.ownBlock] at hb; omega)
 clear c4 r4 s4
 refine wpList_runTo rfl (some 8) rfl (.slice (some ⟨I4.heap.size, 0, none⟩) 4 4) (I4.alloc (.cells #[.int .i64 5, .int .i64 0, .int .i64 3, .int .i64 6] 3)) (by kernel_rfl) ?_
 obtain ⟨A5, hA5⟩ : ∃ W, I4.alloc (.cells #[.int .i64 5, .int .i64 0, .int .i64 3, .int .i64 6] 3) = W := ⟨_, rfl⟩
 have oA5 : Old I4 A5 := by rw [← hA5]; exact (Keeps.refl _ _).alloc _
 have s5 : SeesR A5 1 intL (.slice (some ⟨I4.heap.size, 0, none⟩) 4 4) [5, 0, 3, 6] := by rw [← hA5]; exact SeesR.new (k := 1) (enc := intL) I4 _ (0, 0) [5, 0, 3, 6] _ (by rfl) (fun _ => rfl) (by unfold maxLen; simp)
 rw [hA5]
 clear hA5
 have c5 := (oA5.block _ z4 (fun f => f)).trans b4
 obtain ⟨I5, r5, b5, kk5⟩ := map_put (P := Try.prog) (k := .int .i64 5) Try.underlying106 Try.underlying3 rfl c5 (.slice (some ⟨I4.heap.size, 0, none⟩) 4 4) (by rfl)
 refine wpList_skipTo rfl I5 (run_insert_op (x := .tmp 3) (y := .const (.int .i64 5)) (z := .tmp 8) r5 rfl (by kernel_rfl) (by kernel_rfl) (by kernel_rfl)) ?_
 have z5 : w.heap.size < I5.heap.size := (Array.getElem?_eq_some_iff.1 b5).1
 have o5 : Old w I5 := (o4.trans oA5).then kk5 (fun i hi e => by omega)
 have h5 := s5.keeps kk5 (fun b hb e => by simp [Value.ownBlock] at hb; omega)
 have y5 := oA5.size
 have h1 := (h1.old oA5).keeps kk5 (fun b hb e => by simp [Value.ownBlock] at hb; omega)
 have h2 := (h2.old oA5).keeps kk5 (fun b hb e => by simp [Value.ownBlock] at hb; omega)
 have h3 := (h3.old oA5).keeps kk5 (fun b hb e => by simp [Value.ownBlock] at hb; omega)
 have h4 := (h4.old oA5).keeps kk5 (fun b hb e => by simp [Value.ownBlock] at hb; omega)
 clear c5 r5 s5
 refine wpList_runTo rfl (some 9) rfl (.slice (some ⟨I5.heap.size, 0, none⟩) 3 3) (I5.alloc (.cells #[.int .i64 5, .int .i64 0, .int .i64 7] 3)) (by kernel_rfl) ?_
 obtain ⟨A6, hA6⟩ : ∃ W, I5.alloc (.cells #[.int .i64 5, .int .i64 0, .int .i64 7] 3) = W := ⟨_, rfl⟩
 have oA6 : Old I5 A6 := by rw [← hA6]; exact (Keeps.refl _ _).alloc _
 have s6 : SeesR A6 1 intL (.slice (some ⟨I5.heap.size, 0, none⟩) 3 3) [5, 0, 7] := by rw [← hA6]; exact SeesR.new (k := 1) (enc := intL) I5 _ (0, 0) [5, 0, 7] _ (by rfl) (fun _ => rfl) (by unfold maxLen; simp)
 rw [hA6]
 clear hA6
 have c6 := (oA6.block _ z5 (fun f => f)).trans b5
 obtain ⟨I6, r6, b6, kk6⟩ := map_put (P := Try.prog) (k := .int .i64 6) Try.underlying106 Try.underlying3 rfl c6 (.slice (some ⟨I5.heap.size, 0, none⟩) 3 3) (by rfl)
 refine wpList_skipTo rfl I6 (run_insert_op (x := .tmp 3) (y := .const (.int .i64 6)) (z := .tmp 9) r6 rfl (by kernel_rfl) (by kernel_rfl) (by kernel_rfl)) ?_
 have z6 : w.heap.size < I6.heap.size := (Array.getElem?_eq_some_iff.1 b6).1
 have o6 : Old w I6 := (o5.trans oA6).then kk6 (fun i hi e => by omega)
 have h6 := s6.keeps kk6 (fun b hb e => by simp [Value.ownBlock] at hb; omega)
 have y6 := oA6.size
 have h1 := (h1.old oA6).keeps kk6 (fun b hb e => by simp [Value.ownBlock] at hb; omega)
 have h2 := (h2.old oA6).keeps kk6 (fun b hb e => by simp [Value.ownBlock] at hb; omega)
 have h3 := (h3.old oA6).keeps kk6 (fun b hb e => by simp [Value.ownBlock] at hb; omega)
 have h4 := (h4.old oA6).keeps kk6 (fun b hb e => by simp [Value.ownBlock] at hb; omega)
 have h5 := (h5.old oA6).keeps kk6 (fun b hb e => by simp [Value.ownBlock] at hb; omega)
 clear c6 r6 s6
 obtain ⟨r, V, hr, hV, sV⟩ : ∃ r V, Instr.findNow (.int .i64) (.int .i64 k) ((((((((#[] : Array MapEntry).push ⟨.int .i64 1, .slice (some ⟨I0.heap.size, 0, none⟩) 4 4, 0⟩).push ⟨.int .i64 2, .slice (some ⟨I1.heap.size, 0, none⟩) 1 1, 1⟩).push ⟨.int .i64 3, .slice (some ⟨I2.heap.size, 0, none⟩) 1 1, 2⟩).push ⟨.int .i64 4, .slice (some ⟨I3.heap.size, 0, none⟩) 2 2, 3⟩).push ⟨.int .i64 5, .slice (some ⟨I4.heap.size, 0, none⟩) 4 4, 4⟩).push ⟨.int .i64 6, .slice (some ⟨I5.heap.size, 0, none⟩) 3 3, 5⟩)).toList 0 = some r ∧ r.elim (.slice none 0 0) (·.2) = V ∧ SeesR I6 1 intL V (partsL k) := by
  by_cases e1 : k = 1
  ·exact ⟨_, _, by simp [Instr.findNow, Instr.sameNow, e1]; rfl, rfl, by rw [e1]; exact h1⟩
  by_cases e2 : k = 2
  ·exact ⟨_, _, by simp [Instr.findNow, Instr.sameNow, e2]; rfl, rfl, by rw [e2]; exact h2⟩
  by_cases e3 : k = 3
  ·exact ⟨_, _, by simp [Instr.findNow, Instr.sameNow, e3]; rfl, rfl, by rw [e3]; exact h3⟩
  by_cases e4 : k = 4
  ·exact ⟨_, _, by simp [Instr.findNow, Instr.sameNow, e4]; rfl, rfl, by rw [e4]; exact h4⟩
  by_cases e5 : k = 5
  ·exact ⟨_, _, by simp [Instr.findNow, Instr.sameNow, e5]; rfl, rfl, by rw [e5]; exact h5⟩
  by_cases e6 : k = 6
  ·exact ⟨_, _, by simp [Instr.findNow, Instr.sameNow, e6]; rfl, rfl, by rw [e6]; exact h6⟩
  have f1 : (k == 1) = false := by rw [beq_eq_false_iff_ne]; exact e1
  have f2 : (k == 2) = false := by rw [beq_eq_false_iff_ne]; exact e2
  have f3 : (k == 3) = false := by rw [beq_eq_false_iff_ne]; exact e3
  have f4 : (k == 4) = false := by rw [beq_eq_false_iff_ne]; exact e4
  have f5 : (k == 5) = false := by rw [beq_eq_false_iff_ne]; exact e5
  have f6 : (k == 6) = false := by rw [beq_eq_false_iff_ne]; exact e6
  exact ⟨none, .slice none 0 0, by simp [Instr.findNow, Instr.sameNow, f1, f2, f3, f4, f5, f6], rfl, by unfold partsL; rw [if_neg e1, if_neg e2, if_neg e3, if_neg e4, if_neg e5, if_neg e6]; exact SeesR.nil _⟩
 refine wpList_runTo rfl (some 10) rfl (.map (some w.heap.size)) I6 (by kernel_rfl) ?_
 refine wpList_runTo rfl (some 11) rfl (.int .i64 k) I6 (by kernel_rfl) ?_
 have hg := map_get (P := Try.prog) (k := .int .i64 k) Try.underlying106 Try.underlying3 rfl b6 (z := .slice none 0 0) (by kernel_rfl) hr
 rw [hV] at hg
 refine wpList_runTo rfl (some 12) rfl V I6 (run_lookup_op (x := .tmp 10) (y := .tmp 11) hg rfl (by kernel_rfl) (by kernel_rfl)) ?_
 refine wpList_runTo rfl (some 2) rfl V I6 (by kernel_rfl) ?_
 refine wpList_nil ?_
 try simp only [Act.put, List.setIfInBounds_toArray, List.set_cons_zero, List.set_cons_succ]
 obtain ⟨pv, cv, rfl, _, _⟩ := sV.len
 have HS := Lib.hid (And.intro sV o6)
 clear h1 b1 kk1 oA1 o1 h2 b2 kk2 oA2 o2 h3 b3 kk3 oA3 o3 h4 b4 kk4 oA4 o4 h5 b5 kk5 oA5 o5 h6 b6 kk6 oA6 o6 hr hg sV b0 o0 hV
 go_wp2_with fail
 go_ret
 exact ⟨_, _, _, rfl, HS.out.1, HS.out.2⟩
end Go.Proofs.Ytiednihagnehlaa

namespace Go.Proofs.Ytiednihagnehlaa

/-- a number's form -/
def form (n : Nat) : List UInt8 := if n < 128 then [UInt8.ofNat n] else UInt8.ofNat (128 + n % 128) :: form (n / 128)
termination_by n
decreasing_by omega

theorem form_lt {n : Nat} (h : n < 128) : form n = [UInt8.ofNat n] := by rw [form, if_pos h]
theorem form_ge {n : Nat} (h : 128 ≤ n) : form n = UInt8.ofNat (128 + n % 128) :: form (n / 128) := by rw [form, if_neg (by omega)]

theorem form_length_pos (n : Nat) : 1 ≤ (form n).length := by
  rcases Nat.lt_or_ge n 128 with h | h
  · rw [form_lt h]; simp
  · rw [form_ge h]; simp
theorem form_length_le (k : Nat) : ∀ n, n < 128 ^ (k + 1) → (form n).length ≤ k + 1 := by
  induction k with
  | zero => intro n h; rw [form_lt (by simpa using h)]; simp
  | succ k ih =>
    intro n h
    rcases Nat.lt_or_ge n 128 with h' | h'
    · rw [form_lt h']; simp
    · rw [form_ge h']
      have := ih (n / 128) (by rw [Nat.div_lt_iff_lt_mul (by decide)]; rw [Nat.pow_succ] at h; omega)
      simp; omega
theorem form_le10 {n : Nat} (h : n < 18446744073709551616) : (form n).length ≤ 10 := form_length_le 9 n (Nat.lt_of_lt_of_le h (by decide))

theorem and127_u64 {x : Nat} (h : x < 18446744073709551616) : bits .and .u64 (x : Int) 127 = ((x % 128 : Nat) : Int) := by
  exact bits_mask .u64 64 (by decide) (fun n h0 h1 => by rw [IntKind.wrap_u64]; omega) 7 (by decide) (x : Int) (by omega) (by omega)
theorem and127_u8 {x : Nat} (h : x < 256) : bits .and .u8 (x : Int) 127 = ((x % 128 : Nat) : Int) := by
  exact bits_mask .u8 8 (by decide) wraps_u8 7 (by decide) (x : Int) (by omega) (by omega)
theorem or128_u8 {x : Nat} (h : x < 128) : bits .or .u8 (x : Int) 128 = ((x + 128 : Nat) : Int) := by
  revert x; decide +kernel
theorem byte_last {m : Nat} (h : m < 128) : (m : Int) % 128 = ((UInt8.ofNat m).toNat : Int) := by
  rw [UInt8.toNat_ofNat']; omega
theorem byte_more (m : Nat) : bits .or .u8 ((m : Int) % 128) 128 = ((UInt8.ofNat (128 + m % 128)).toNat : Int) := by
  have h := or128_u8 (x := m % 128) (by omega)
  rw [UInt8.toNat_ofNat']
  rw [show ((m : Int) % 128) = ((m % 128 : Nat) : Int) from by omega, h]
  omega

/-- a signed number as one that is not -/
def zigN (z : Int) : Nat := if 0 ≤ z then (2 * z).toNat else (-2 * z - 1).toNat
/-- and back -/
def zagZ (m : Nat) : Int := if m % 2 = 0 then (m / 2 : Nat) else -((m / 2 : Nat) : Int) - 1
theorem zigN_lt {z : Int} (hz : -9223372036854775808 ≤ z ∧ z ≤ 9223372036854775807) : zigN z < 18446744073709551616 := by unfold zigN; split <;> omega
theorem zagZ_range {m : Nat} (hm : m < 18446744073709551616) : -9223372036854775808 ≤ zagZ m ∧ zagZ m ≤ 9223372036854775807 := by unfold zagZ; split <;> omega
theorem zag_zig (z : Int) : zagZ (zigN z) = z := by
  unfold zigN
  split
  · unfold zagZ; rw [if_pos (by omega)]; omega
  · unfold zagZ; rw [if_neg (by omega)]; omega
theorem zig_zag (m : Nat) : zigN (zagZ m) = m := by
  unfold zagZ
  split
  · unfold zigN; rw [if_pos (by omega)]; omega
  · unfold zigN; rw [if_neg (by omega)]; omega
theorem xor_ones (a : Nat) (ha : a < 18446744073709551616) : a ^^^ 18446744073709551615 = 18446744073709551615 - a := by
  have h : ((BitVec.ofNat 64 a) ^^^ BitVec.allOnes 64).toNat = 18446744073709551615 - a := by
    rw [BitVec.xor_allOnes, BitVec.toNat_not, BitVec.toNat_ofNat, Nat.mod_eq_of_lt (by omega)]
  rw [BitVec.toNat_xor, BitVec.toNat_ofNat, Nat.mod_eq_of_lt (by omega)] at h
  exact h
theorem zig_bits {z : Int} (hz : -9223372036854775808 ≤ z ∧ z ≤ 9223372036854775807) :
    bits .xor .u64 (IntKind.u64.wrap (IntKind.u64.wrap z * 2)) (IntKind.u64.wrap (z / 9223372036854775808)) = (zigN z : Int) := by
  simp only [IntKind.wrap_u64]
  unfold zigN
  split
  · rename_i h0
    have e1 : (z % 18446744073709551616 * 2) % 18446744073709551616 = ((2 * z).toNat : Int) := by omega
    have e2 : (z / 9223372036854775808) % 18446744073709551616 = ((0 : Nat) : Int) := by omega
    rw [e1, e2, bits_xor_u64_nat _ _ (by omega) (by omega), Nat.xor_zero]
  · rename_i h0
    have e1 : (z % 18446744073709551616 * 2) % 18446744073709551616 = ((2 * z + 18446744073709551616).toNat : Int) := by omega
    have e2 : (z / 9223372036854775808) % 18446744073709551616 = ((18446744073709551615 : Nat) : Int) := by omega
    rw [e1, e2, bits_xor_u64_nat _ _ (by omega) (by omega), xor_ones _ (by omega)]
    omega
theorem and1_u64 {x : Nat} (h : x < 18446744073709551616) : bits .and .u64 (x : Int) 1 = ((x % 2 : Nat) : Int) := by
  exact bits_mask .u64 64 (by decide) (fun n h0 h1 => by rw [IntKind.wrap_u64]; omega) 1 (by decide) (x : Int) (by omega) (by omega)
theorem xor_i64_zero {a : Nat} (h : a < 9223372036854775808) : bits .xor .i64 (a : Int) 0 = (a : Int) := by
  show IntKind.i64.wrap ((BitVec.ofInt 64 (a : Int) ^^^ BitVec.ofInt 64 0).toNat : Int) = _
  rw [BitVec.toNat_xor, BitVec.ofInt_natCast, BitVec.toNat_ofNat, Nat.mod_eq_of_lt (by omega)]
  simp [IntKind.wrap_i64]
  omega
theorem xor_i64_neg {a : Nat} (h : a < 9223372036854775808) : bits .xor .i64 (a : Int) (-1) = -(a : Int) - 1 := by
  show IntKind.i64.wrap ((BitVec.ofInt 64 (a : Int) ^^^ BitVec.ofInt 64 (-1)).toNat : Int) = _
  rw [BitVec.toNat_xor, BitVec.ofInt_natCast, BitVec.toNat_ofNat, Nat.mod_eq_of_lt (by omega)]
  rw [show (BitVec.ofInt 64 (-1)).toNat = 18446744073709551615 from by decide, xor_ones _ (by omega), IntKind.wrap_i64]
  omega
theorem zag_bits {m : Nat} (hm : m < 18446744073709551616) : bits .xor .i64 ((m : Int) / 2) (IntKind.i64.wrap (-IntKind.i64.wrap (bits .and .u64 (m : Int) 1))) = zagZ m := by
  rw [and1_u64 hm, show (m : Int) / 2 = ((m / 2 : Nat) : Int) from by omega]
  unfold zagZ
  split
  · rename_i h
    rw [h, show IntKind.i64.wrap (-IntKind.i64.wrap ((0 : Nat) : Int)) = 0 from by decide, xor_i64_zero (by omega)]
  · rename_i h
    rw [show m % 2 = 1 from by omega, show IntKind.i64.wrap (-IntKind.i64.wrap ((1 : Nat) : Int)) = -1 from by decide, xor_i64_neg (by omega)]
theorem byte_low {m : Nat} (h : m < 128) : (m : Int) = ((UInt8.ofNat m).toNat : Int) := by
  rw [UInt8.toNat_ofNat']; omega
theorem byte_high (m : Nat) : 128 + (m : Int) % 128 = ((UInt8.ofNat (128 + m % 128)).toNat : Int) := by
  rw [UInt8.toNat_ofNat']; omega

/-- groups of seven bits, from the i-th on: (the number, the error, what is left) -/
def scan : Nat → Nat → List UInt8 → Nat × Nat × List UInt8
  | _, _, [] => (0, 4, [])
  | i, acc, c :: r =>
    if (i = 9 ∧ 1 < c.toNat) ∨ (0 < i ∧ c.toNat = 0) then (0, 5, [])
    else if c.toNat < 128 then (acc + c.toNat % 128 * 128 ^ i, 0, r) else scan (i + 1) (acc + c.toNat % 128 * 128 ^ i) r
/-- a number is read: (the number, the error, what is left) -/
def readNum (l : List UInt8) (most : Nat) : Nat × Nat × List UInt8 :=
  if (scan 0 0 l).2.1 ≠ 0 then (0, (scan 0 0 l).2.1, l) else if most < (scan 0 0 l).1 then (0, 3, l) else ((scan 0 0 l).1, 0, (scan 0 0 l).2.2)

theorem or_group {acc c i : Nat} (hi : i ≤ 9) (ha : acc < 128 ^ i) (hc : c < 128) (h9 : i = 9 → c ≤ 1) : bits .or .u64 (acc : Int) (IntKind.u64.wrap ((c : Int) * 2 ^ min (7 * (i : Int)).toNat 64)) = ((acc + c * 128 ^ i : Nat) : Int) := by
  have e1 : min (7 * (i : Int)).toNat 64 = 7 * i := by omega
  have e2 : ((c : Int) * 2 ^ (7 * i)) = ((c * 128 ^ i : Nat) : Int) := by
    rw [Int.natCast_mul, Int.natCast_pow, show ((128 : Nat) : Int) = 2 ^ 7 from rfl, ← Int.pow_mul]
  have hp : 128 ^ i = 2 ^ (7 * i) := by rw [Nat.pow_mul]
  have hlt : acc + c * 128 ^ i < 18446744073709551616 := by
    rcases Nat.lt_or_ge i 9 with h | h
    · have h1 : acc + c * 128 ^ i < 128 ^ (i + 1) := by
        have : c * 128 ^ i ≤ 127 * 128 ^ i := Nat.mul_le_mul_right _ (by omega)
        rw [Nat.pow_succ]; omega
      exact Nat.lt_of_lt_of_le h1 (Nat.le_trans (Nat.pow_le_pow_right (by decide) (show i + 1 ≤ 9 by omega)) (by decide))
    · obtain rfl : i = 9 := by omega
      have := h9 rfl
      have : c * 128 ^ 9 ≤ 1 * 128 ^ 9 := Nat.mul_le_mul_right _ (by omega)
      have h3 : (128 : Nat) ^ 9 = 9223372036854775808 := by decide
      omega
  rw [e1, e2]
  rw [show IntKind.u64.wrap ((c * 128 ^ i : Nat) : Int) = ((c * 128 ^ i : Nat) : Int) from by rw [IntKind.wrap_u64]; omega]
  rw [(bits_nat .u64 64 (by decide) (fun n h0 h1 => by rw [IntKind.wrap_u64]; omega) acc (c * 128 ^ i) (by omega) (by omega)).2]
  rw [hp] at ha ⊢
  rw [Nat.or_comm, Nat.mul_comm c, ← Nat.two_pow_add_eq_or_of_lt ha c]
  omega
theorem or_group' {acc c i : Nat} (hi : i ≤ 9) (ha : acc < 128 ^ i) (h9 : i = 9 → c ≤ 1) : bits .or .u64 (acc : Int) (IntKind.u64.wrap ((c : Int) % 128 * 2 ^ (7 * i))) = ((acc + c % 128 * 128 ^ i : Nat) : Int) := by
  have h := or_group (c := c % 128) hi ha (by omega) (fun h => by have := h9 h; omega)
  rw [show min (7 * (i : Int)).toNat 64 = 7 * i from by omega] at h
  rw [← h]
  rfl
theorem acc_lt {acc c i : Nat} (ha : acc < 128 ^ i) : acc + c % 128 * 128 ^ i < 128 ^ (i + 1) := by
  have : c % 128 * 128 ^ i ≤ 127 * 128 ^ i := Nat.mul_le_mul_right _ (by omega)
  rw [Nat.pow_succ]; omega
theorem scan_bad {i acc : Nat} {c : UInt8} {r : List UInt8} (h : (i = 9 ∧ 1 < c.toNat) ∨ (0 < i ∧ c.toNat = 0)) : scan i acc (c :: r) = (0, 5, []) := by rw [scan, if_pos h]
theorem scan_last {i acc : Nat} {c : UInt8} {r : List UInt8} (h : ¬ ((i = 9 ∧ 1 < c.toNat) ∨ (0 < i ∧ c.toNat = 0))) (hc : c.toNat < 128) : scan i acc (c :: r) = (acc + c.toNat % 128 * 128 ^ i, 0, r) := by rw [scan, if_neg h, if_pos hc]
theorem scan_more {i acc : Nat} {c : UInt8} {r : List UInt8} (h : ¬ ((i = 9 ∧ 1 < c.toNat) ∨ (0 < i ∧ c.toNat = 0))) (hc : ¬ c.toNat < 128) : scan i acc (c :: r) = scan (i + 1) (acc + c.toNat % 128 * 128 ^ i) r := by rw [scan, if_neg h, if_neg hc]
theorem read_bad {l : List UInt8} {most e : Nat} {n : Nat} {r : List UInt8} (h : scan 0 0 l = (n, e, r)) (he : e ≠ 0) : readNum l most = (0, e, l) := by
  unfold readNum; rw [h]; simp [he]
theorem read_long {l : List UInt8} {most n : Nat} {r : List UInt8} (h : scan 0 0 l = (n, 0, r)) (hn : most < n) : readNum l most = (0, 3, l) := by
  unfold readNum; rw [h]; simp [hn]
theorem read_ok {l : List UInt8} {most n : Nat} {r : List UInt8} (h : scan 0 0 l = (n, 0, r)) (hn : ¬ most < n) : readNum l most = (n, 0, r) := by
  unfold readNum; rw [h]; simp [hn]

/-- a signed number is read -/
def readInt (l : List UInt8) : Int × Nat × List UInt8 := (if (readNum l 18446744073709551615).2.1 = 0 then zagZ (readNum l 18446744073709551615).1 else 0, (readNum l 18446744073709551615).2)
/-- a string of bytes is read -/
def readBytes (l : List UInt8) (most : Int) : List UInt8 × Nat × List UInt8 :=
  if most < 0 then ([], 1, l)
  else if (readNum l most.toNat).2.1 ≠ 0 then ([], (readNum l most.toNat).2.1, l)
  else if (readNum l most.toNat).2.2.length < (readNum l most.toNat).1 then ([], 4, l)
  else ((readNum l most.toNat).2.2.take (readNum l most.toNat).1, 0, (readNum l most.toNat).2.2.drop (readNum l most.toNat).1)
theorem readNum_err (l : List UInt8) (most : Nat) : (readNum l most).2.1 < 6 := by
  have key : ∀ l i acc, (scan i acc l).2.1 < 6 := by
    intro l
    induction l with
    | nil => intro i acc; simp [scan]
    | cons c r ih => intro i acc; rw [scan]; split; · simp
                     split; · simp
                     exact ih _ _
  unfold readNum
  split
  · exact key _ _ _
  · split <;> simp
theorem readNum_le (l : List UInt8) (most : Nat) : (readNum l most).1 ≤ most := by
  unfold readNum
  split
  · simp
  · split
    · simp
    · simp; omega
theorem readNum_bad {l : List UInt8} {most : Nat} (h : (readNum l most).2.1 ≠ 0) : (readNum l most).1 = 0 ∧ (readNum l most).2.2 = l := by
  unfold readNum at h ⊢
  split
  · simp
  · rename_i h1
    rw [if_neg h1] at h
    split
    · simp
    · rename_i h2; rw [if_neg h2] at h; exact absurd rfl h
theorem scan_rest : ∀ l i acc, (scan i acc l).2.2.length ≤ l.length := by
  intro l
  induction l with
  | nil => intro i acc; simp [scan]
  | cons c r ih =>
    intro i acc; rw [scan]; split
    · simp
    · split
      · simp
      · have := ih (i + 1) (acc + c.toNat % 128 * 128 ^ i); simp; omega
theorem readNum_rest (l : List UInt8) (most : Nat) : (readNum l most).2.2.length ≤ l.length := by
  unfold readNum
  split
  · exact Nat.le_refl _
  · split
    · exact Nat.le_refl _
    · exact scan_rest l 0 0

/-- how many bytes of 128 and more stand first -/
def lead : List UInt8 → Nat
  | [] => 0
  | c :: r => if 128 ≤ c.toNat then lead r + 1 else 0
/-- groups of seven bits, the lowest first, as a number -/
def lev : List UInt8 → Nat
  | [] => 0
  | c :: r => c.toNat % 128 + 128 * lev r
theorem lead_le : ∀ l, lead l ≤ l.length
  | [] => Nat.le_refl _
  | c :: r => by have := lead_le r; unfold lead; split <;> simp <;> omega
theorem lead_at : ∀ (l : List UInt8) (k : Nat), k < lead l → ∃ c, l[k]? = some c ∧ 128 ≤ c.toNat
  | [], k, h => by simp [lead] at h
  | c :: r, k, h => by
    unfold lead at h
    split at h
    · cases k with
      | zero => exact ⟨c, by simp, by assumption⟩
      | succ k => simpa using lead_at r k (by omega)
    · omega
theorem lead_end : ∀ (l : List UInt8), lead l < l.length → ∃ c, l[lead l]? = some c ∧ c.toNat < 128
  | [], h => by simp at h
  | c :: r, h => by
    unfold lead at h ⊢
    split
    · rename_i hc
      rw [if_pos hc] at h
      obtain ⟨d, h1, h2⟩ := lead_end r (by simp at h; omega)
      exact ⟨d, by simpa using h1, h2⟩
    · exact ⟨c, by simp, by omega⟩
theorem lev_lt : ∀ l, lev l < 128 ^ l.length
  | [] => by simp [lev]
  | c :: r => by
    have := lev_lt r
    simp only [lev, List.length_cons, Nat.pow_succ]
    omega
theorem lev_drop (l : List UInt8) (i : Nat) : lev (l.drop i) ≤ lev l := by
  induction l generalizing i with
  | nil => simp [lev]
  | cons c r ih =>
    cases i with
    | zero => exact Nat.le_refl _
    | succ i => simp only [List.drop_succ_cons, lev]; have := ih i; omega
theorem lev_step (l : List UInt8) (i : Nat) (c : UInt8) (h : l[i]? = some c) : lev (l.drop i) = c.toNat % 128 + 128 * lev (l.drop (i + 1)) := by
  have hi := (List.getElem?_eq_some_iff.1 h).1
  have hc := (List.getElem?_eq_some_iff.1 h).2
  rw [List.drop_eq_getElem_cons hi, hc, lev]
/-- the scan, by the number of bytes that stand first -/
theorem scan_lead : ∀ (l : List UInt8) (i acc : Nat), i ≤ 9 →
    ((10 ≤ i + lead l → (scan i acc l).2.1 = 5) ∧ (i + lead l < 10 → lead l = l.length → (scan i acc l).2.1 = 4) ∧
     (i + lead l < 10 → ∀ c, l[lead l]? = some c → ((i + lead l = 9 ∧ 1 < c.toNat) ∨ (0 < i + lead l ∧ c.toNat = 0)) → (scan i acc l).2.1 = 5) ∧
     (i + lead l < 10 → ∀ c, l[lead l]? = some c → ¬ ((i + lead l = 9 ∧ 1 < c.toNat) ∨ (0 < i + lead l ∧ c.toNat = 0)) → scan i acc l = (acc + 128 ^ i * lev (l.take (lead l + 1)), 0, l.drop (lead l + 1)))) := by
  intro l
  induction l with
  | nil =>
    intro i acc hi
    refine ⟨fun h => by simp [lead] at h; omega, fun _ _ => by simp [scan], fun _ c h => by simp at h, fun _ c h => by simp at h⟩
  | cons c r ih =>
    intro i acc hi
    by_cases hc : 128 ≤ c.toNat
    · have hl : lead (c :: r) = lead r + 1 := by rw [lead, if_pos hc]
      by_cases h9 : i = 9
      · have hb : scan i acc (c :: r) = (0, 5, []) := scan_bad (.inl ⟨h9, by omega⟩)
        refine ⟨fun _ => by rw [hb], fun h => by omega, fun h => by omega, fun h => by omega⟩
      · have hg : ¬ ((i = 9 ∧ 1 < c.toNat) ∨ (0 < i ∧ c.toNat = 0)) := by omega
        have hs := scan_more (acc := acc) (r := r) hg (by omega)
        obtain ⟨h1, h2, h3, h4⟩ := ih (i + 1) (acc + c.toNat % 128 * 128 ^ i) (by omega)
        rw [hs, hl]
        refine ⟨fun h => h1 (by omega), fun h e => h2 (by omega) (by simp at e; omega), fun h d hd hbad => h3 (by omega) d (by simpa using hd) (by omega), fun h d hd hgood => ?_⟩
        rw [h4 (by omega) d (by simpa using hd) (by omega)]
        simp only [List.take_succ_cons, List.drop_succ_cons, lev, Prod.mk.injEq, and_true]
        rw [Nat.pow_succ, Nat.mul_add, Nat.mul_comm (c.toNat % 128), Nat.mul_assoc]
        omega
    · have hl : lead (c :: r) = 0 := by rw [lead, if_neg hc]
      rw [hl]
      refine ⟨fun h => by omega, fun _ e => by simp at e, fun _ d hd hbad => ?_, fun _ d hd hgood => ?_⟩
      · obtain rfl : c = d := by simpa using hd
        rw [scan_bad (by simpa using hbad)]
      · obtain rfl : c = d := by simpa using hd
        rw [scan_last (by simpa using hgood) (by omega)]
        simp [lev, Nat.mul_comm]
theorem lev_fits (l : List UInt8) (n : Nat) (hn : n < 10) (c : UInt8) (h : l[n]? = some c) (h9 : n = 9 → c.toNat ≤ 1) : lev (l.take (n + 1)) < 18446744073709551616 := by
  rcases Nat.lt_or_ge n 9 with h' | h'
  · have h1 := lev_lt (l.take (n + 1))
    have h2 : (l.take (n + 1)).length ≤ 9 := by simp; omega
    exact Nat.lt_of_lt_of_le h1 (Nat.le_trans (Nat.pow_le_pow_right (by decide) h2) (by decide))
  · obtain rfl : n = 9 := by omega
    have hh := h9 rfl
    have key : ∀ (m : Nat) (l : List UInt8), l[m]? = some c → lev (l.take (m + 1)) < 2 * 128 ^ m := by
      intro m
      induction m with
      | zero =>
        intro l hl
        cases l with
        | nil => simp at hl
        | cons d r =>
          obtain rfl : d = c := by simpa using hl
          simp [lev]; omega
      | succ m ih =>
        intro l hl
        cases l with
        | nil => simp at hl
        | cons d r =>
          have := ih r (by simpa using hl)
          simp only [List.take_succ_cons, lev, Nat.pow_succ]
          omega
    exact key 9 l h
theorem read_many {l : List UInt8} {most : Nat} (h : 10 ≤ lead l) : readNum l most = (0, 5, l) := by
  have h1 := (scan_lead l 0 0 (by omega)).1 (by omega)
  have := read_bad (l := l) (most := most) (e := 5) (n := (scan 0 0 l).1) (r := (scan 0 0 l).2.2) (by rw [← h1]) (by decide)
  exact this
theorem read_short {l : List UInt8} {most : Nat} (h : lead l < 10) (he : lead l = l.length) : readNum l most = (0, 4, l) := by
  have h1 := (scan_lead l 0 0 (by omega)).2.1 (by omega) he
  exact read_bad (l := l) (most := most) (e := 4) (n := (scan 0 0 l).1) (r := (scan 0 0 l).2.2) (by rw [← h1]) (by decide)
theorem read_none {l : List UInt8} {most : Nat} (h : lead l < 10) {c : UInt8} (hc : l[lead l]? = some c) (hb : (lead l = 9 ∧ 1 < c.toNat) ∨ (0 < lead l ∧ c.toNat = 0)) : readNum l most = (0, 5, l) := by
  have h1 := (scan_lead l 0 0 (by omega)).2.2.1 (by omega) c hc (by simpa using hb)
  exact read_bad (l := l) (most := most) (e := 5) (n := (scan 0 0 l).1) (r := (scan 0 0 l).2.2) (by rw [← h1]) (by decide)
theorem read_good {l : List UInt8} {most : Nat} (h : lead l < 10) {c : UInt8} (hc : l[lead l]? = some c) (hb : ¬ ((lead l = 9 ∧ 1 < c.toNat) ∨ (0 < lead l ∧ c.toNat = 0))) :
    readNum l most = if most < lev (l.take (lead l + 1)) then (0, 3, l) else (lev (l.take (lead l + 1)), 0, l.drop (lead l + 1)) := by
  have h1 := (scan_lead l 0 0 (by omega)).2.2.2 (by omega) c hc (by simpa using hb)
  simp only [Nat.pow_zero, Nat.one_mul, Nat.zero_add] at h1
  split
  · rename_i h2; exact read_long h1 h2
  · rename_i h2; exact read_ok h1 h2
theorem form_300 : form 300 = [172, 2] := by rw [form_ge (by decide), form_lt (by decide)]; decide
theorem form_129 : form 129 = [129, 1] := by rw [form_ge (by decide), form_lt (by decide)]; decide
theorem form_2 : form 2 = [2] := by rw [form_lt (by decide)]; decide
end Go.Proofs.Ytiednihagnehlaa

namespace Go.Proofs.Ytiednihagnehlaa
open Go.RowKit

/-- a call hands back a slice of its own that reads as l; nothing that was there has turned -/
def Gives (w : World) (l : List UInt8) (e : Ending) (w' : World) : Prop := ∃ p n c, e = .returned (.slice p n c) ∧ Owns w' w.heap.size (.slice p n c) l ∧ Old w w'

theorem gives {w w' : World} {l : List UInt8} {e : Ending} {v : Value} (he : e = .returned v) (ho : Owns w' w.heap.size v l) (hk : Old w w') : Gives w l e w' := by
 obtain ⟨p, c, rfl, _, _⟩ := ho.sees.len
 exact ⟨p, _, c, he, ho, hk⟩

theorem ret_int {k : IntKind} {a b : Int} (h : a = b) : Ending.returned (.int k a) = .returned (.int k b) := by rw [h]

end Go.Proofs.Ytiednihagnehlaa

namespace Go.Proofs.Ytiednihagnehlaa
open Go.RowKit

end Go.Proofs.Ytiednihagnehlaa

namespace Go.Proofs.Ytiednihagnehlaa
open Go.RowKit
end Go.Proofs.Ytiednihagnehlaa

namespace Go.Proofs.Ytiednihagnehlaa
open Go.RowKit

theorem own_blk {B b o n c k : Nat} (hb : b < B) (h : (Value.slice (some ⟨b, o, none⟩) n c).ownBlock = some k) : k = b ∧ k < B := by
 simp [Value.ownBlock] at h; subst h; exact ⟨rfl, hb⟩
end Go.Proofs.Ytiednihagnehlaa

namespace Go.Proofs.Ytiednihagnehlaa
open Go.RowKit

end Go.Proofs.Ytiednihagnehlaa
