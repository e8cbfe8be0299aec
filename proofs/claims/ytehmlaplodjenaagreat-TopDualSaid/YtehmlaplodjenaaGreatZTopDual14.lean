/- DERIVED. Maps keyed by ints, by words without sign, by strings: what a map holds, as a function. · DERIVED. cover: Region.And, Within. -/
import Derived.Test.YtehmlaplodjenaaGreatYpTopDual01
import Derived.Test.YtehmlaplodjenaaGreatYpTopDual02
import Derived.MapKept
import Derived.Test.YtehmlaplodjenaaGreatZTopDual09
import Derived.Deep.DeepCutAuto
import Derived.Test.YtehmlaplodjenaaGreatZTopDual04
set_option maxRecDepth 100000
set_option maxHeartbeats 4000000
namespace Go.Proofs.YtehmlaplodjenaaGreat
section
open Go.RowKit
def MapF (d : TypeDesc) (w : World) (m n : Nat) (f : Value → Option Value) : Prop :=
 ∃ (es : Array MapEntry) (clk : Nat), w.heap[m]? = some (.map es clk) ∧ MapKept.Stamped es clk ∧ (∀ x ∈ es.toList, MapKept.IsKey d x.key) ∧ es.size ≤ n ∧
  ∀ k v, MapKept.IsKey d k → (f k = some v ↔ ∃ e ∈ es.toList, e.key = k ∧ e.val = v)
theorem MapF.lt {d : TypeDesc} {w : World} {m n : Nat} {f : Value → Option Value} (h : MapF d w m n f) : m < w.heap.size := by
 obtain ⟨es, clk, h1, _⟩ := h
 exact (Array.getElem?_eq_some_iff.1 h1).1
theorem MapF.keeps {S : Nat → Prop} {d : TypeDesc} {w w' : World} {m n : Nat} {f : Value → Option Value} (h : MapF d w m n f) (hk : Keeps S w w') (hS : ¬ S m) : MapF d w' m n f := by
 obtain ⟨es, clk, h1, h2⟩ := h
 exact ⟨es, clk, (hk.block m (Array.getElem?_eq_some_iff.1 h1).1 hS).trans h1, h2⟩
theorem MapF.old {d : TypeDesc} {w w' : World} {m n : Nat} {f : Value → Option Value} (h : MapF d w m n f) (hk : Old w w') : MapF d w' m n f := h.keeps hk (fun f => f)
theorem MapF.new (d : TypeDesc) (w : World) : MapF d (w.alloc (.map #[] 0)) w.heap.size 0 (fun _ => none) :=
 ⟨#[], 0, heap_alloc_new _ _, MapKept.stamped_empty 0, by simp, by simp, fun k v _ => by simp⟩
theorem pair_same {es : List MapEntry} (h : es.Pairwise (fun x y => x.key ≠ y.key)) : ∀ {x y : MapEntry}, x ∈ es → y ∈ es → x.key = y.key → x = y := by
 induction es with
 | nil => intro x y hx; cases hx
 | cons a l ih =>
  obtain ⟨h1, h2⟩ := List.pairwise_cons.1 h
  intro x y hx hy e
  rcases List.mem_cons.1 hx with ex | hx' <;> rcases List.mem_cons.1 hy with ey | hy'
  ·rw [ex, ey]
  ·exact absurd (by rw [← ex]; exact e) (h1 y hy')
  ·exact absurd (by rw [← ey]; exact e.symm) (h1 x hx')
  ·exact ih h2 hx' hy' e
theorem MapF.find {d : TypeDesc} {w : World} {m n : Nat} {f : Value → Option Value} {k : Value} (h : MapF d w m n f) (hk : MapKept.IsKey d k) :
  ∃ (es : Array MapEntry) (clk : Nat), w.heap[m]? = some (.map es clk) ∧ ((f k = none ∧ Instr.findNow d k es.toList 0 = some none) ∨ ∃ (j : Nat) (v : Value), f k = some v ∧ Instr.findNow d k es.toList 0 = some (some (j, v))) := by
 obtain ⟨es, clk, h1, h2, h3, hn, h4⟩ := h
 refine ⟨es, clk, h1, ?_⟩
 rcases MapKept.findNow_spec hk es.toList 0 h3 with ⟨g1, g2⟩ | ⟨j, e, g1, g2, g3⟩
 ·left
  refine ⟨?_, g1⟩
  cases hf : f k with
  | none => rfl
  | some v =>
   obtain ⟨e, he, e1, _⟩ := (h4 k v hk).1 hf
   exact absurd e1 (g2 e he)
 ·right
  exact ⟨0 + j, e.val, (h4 k _ hk).2 ⟨e, List.mem_of_getElem? g2, g3, rfl⟩, g1⟩
theorem MapF.get {P : Program} {T kt et : TypeId} {d : TypeDesc} {w : World} {m n : Nat} {f : Value → Option Value} {k z : Value} (h : MapF d w m n f) (hu : P.underlying T = some (.map kt et)) (hd : P.underlying kt = some d) (hk : MapKept.IsKey d k) (hz : (zeroValue et).run P w = .ok z w) :
  (Instr.lookup T (.map (some m)) k false).run P w = .ok ((f k).getD z) w := by
 obtain ⟨es, clk, h1, ⟨h2, h3⟩ | ⟨j, v, h2, h3⟩⟩ := h.find hk
 ·simp [Instr.lookup, run_underlying hu, MapKept.run_getObj_map h1, MapKept.run_checkKey hd hk, MapKept.run_findKey hd h3, hz, h2, Result.andThen]
 ·simp [Instr.lookup, run_underlying hu, MapKept.run_getObj_map h1, MapKept.run_checkKey hd hk, MapKept.run_findKey hd h3, h2, Result.andThen]
theorem MapF.get2 {P : Program} {T kt et : TypeId} {d : TypeDesc} {w : World} {m n : Nat} {f : Value → Option Value} {k z : Value} (h : MapF d w m n f) (hu : P.underlying T = some (.map kt et)) (hd : P.underlying kt = some d) (hk : MapKept.IsKey d k) (hz : (zeroValue et).run P w = .ok z w) :
  (Instr.lookup T (.map (some m)) k true).run P w = .ok (.tuple #[(f k).getD z, .bool (f k).isSome]) w := by
 obtain ⟨es, clk, h1, ⟨h2, h3⟩ | ⟨j, v, h2, h3⟩⟩ := h.find hk
 ·simp [Instr.lookup, run_underlying hu, MapKept.run_getObj_map h1, MapKept.run_checkKey hd hk, MapKept.run_findKey hd h3, hz, h2, Result.andThen]
 ·simp [Instr.lookup, run_underlying hu, MapKept.run_getObj_map h1, MapKept.run_checkKey hd hk, MapKept.run_findKey hd h3, h2, Result.andThen]
structure Turned (d : TypeDesc) (f f' : Value → Option Value) (k v : Value) : Prop where
 at_ : f' k = some v
 off : ∀ k', MapKept.IsKey d k' → k' ≠ k → f' k' = f k'
theorem MapF.put {P : Program} {T kt et : TypeId} {d : TypeDesc} {w : World} {m n : Nat} {f : Value → Option Value} {k : Value} (h : MapF d w m n f) (hu : P.underlying T = some (.map kt et)) (hd : P.underlying kt = some d) (hk : MapKept.IsKey d k) (v : Value) :
  ∃ w', (Instr.mapUpdate T (.map (some m)) k v).run P w = .ok () w' ∧ Keeps (fun i => i = m) w w' ∧ w'.heap.size = w.heap.size ∧ ∀ f', Turned d f f' k v → MapF d w' m (n + 1) f' := by
 obtain ⟨es, clk, h1, h2, h3, hn, h4⟩ := h
 have hlt : m < w.heap.size := (Array.getElem?_eq_some_iff.1 h1).1
 have hkk : ∀ o : Obj, Keeps (fun b => b = m) w { w with heap := w.heap.setIfInBounds m o } := fun o => ⟨rfl, rfl, rfl, by simp, fun i _ hi => by simp [Ne.symm hi]⟩
 have hpw := ((MapKept.stamped_iff es clk).1 h2).2.2
 rcases MapKept.findNow_spec hk es.toList 0 h3 with ⟨g1, g2⟩ | ⟨j, e, g1, g2, g3⟩
 ·refine ⟨{ w with heap := w.heap.setIfInBounds m (.map (es.push { key := k, val := v, born := clk }) (clk + 1)) }, ?_, hkk _, by simp, fun f' ht => ?_⟩
  ·simp [Instr.mapUpdate, run_underlying hu, MapKept.run_getObj_map h1, MapKept.run_checkKey hd hk, MapKept.run_findKey hd g1, MapKept.run_setObj_map _ h1, Result.andThen]
  ·refine ⟨es.push { key := k, val := v, born := clk }, clk + 1, by simp [hlt], MapKept.stamped_push h2 g2, ?_, by simp; omega, fun k' v' hk' => ?_⟩
   ·intro x hx
    simp only [Array.toList_push, List.mem_append, List.mem_singleton] at hx
    rcases hx with hx | rfl
    ·exact h3 x hx
    ·exact hk
   ·simp only [Array.toList_push, List.mem_append, List.mem_singleton]
    by_cases hkk' : k' = k
    ·subst hkk'
     rw [ht.at_]
     constructor
     ·intro e
      simp only [Option.some.injEq] at e
      exact ⟨_, .inr rfl, rfl, e⟩
     ·rintro ⟨x, hx | rfl, e1, e2⟩
      ·exact absurd e1 (g2 x hx)
      ·rw [← e2]
    ·rw [ht.off k' hk' hkk', h4 k' v' hk']
     constructor
     ·rintro ⟨x, hx, e1, e2⟩
      exact ⟨x, .inl hx, e1, e2⟩
     ·rintro ⟨x, hx | rfl, e1, e2⟩
      ·exact ⟨x, hx, e1, e2⟩
      ·exact absurd e1.symm hkk'
 ·have hj : es[j]? = some e := by simpa using g2
  have hjl : j < es.size := (Array.getElem?_eq_some_iff.1 hj).1
  have ej : es[j] = e := (Array.getElem?_eq_some_iff.1 hj).2
  refine ⟨{ w with heap := w.heap.setIfInBounds m (.map (es.modify j fun x => { x with key := k, val := v }) clk) }, ?_, hkk _, by simp, fun f' ht => ?_⟩
  ·have g1' : Instr.findNow d k es.toList 0 = some (some (j, e.val)) := by simpa using g1
   have hst : (Instr.keyThatStays e.key k).run P w = .ok k w := by rw [g3]; exact MapKept.run_keyThatStays hk
   simp [Instr.mapUpdate, run_underlying hu, MapKept.run_getObj_map h1, MapKept.run_checkKey hd hk, MapKept.run_findKey hd g1', hj, hst, MapKept.run_setObj_map _ h1, Result.andThen]
  ·have hmem : ∀ x, x ∈ (es.modify j fun x => { x with key := k, val := v }).toList ↔ (x = { e with key := k, val := v }) ∨ (x ∈ es.toList ∧ x.key ≠ k) := by
    intro x
    rw [Array.mem_toList_iff, Array.mem_iff_getElem]
    constructor
    ·rintro ⟨i, hi, rfl⟩
     rw [Array.size_modify] at hi
     rw [Array.getElem_modify]
     split
     ·rename_i hij
      subst hij
      left
      rw [ej]
     ·rename_i hij
      right
      refine ⟨by simp, fun hx => hij ?_⟩
      have := pair_same hpw (x := es[i]) (y := es[j]) (by simp) (by simp) (by rw [hx, ej, g3])
      have hnd := List.pairwise_iff_getElem.1 hpw
      rcases Nat.lt_trichotomy i j with hlt' | heq | hgt
      ·exact absurd (by rw [Array.getElem_toList, Array.getElem_toList, hx, ej, g3]) (hnd i j (by simpa using hi) (by simpa using hjl) hlt')
      ·exact heq.symm
      ·exact absurd (by rw [Array.getElem_toList, Array.getElem_toList, hx, ej, g3]) (hnd j i (by simpa using hjl) (by simpa using hi) hgt)
    ·rintro (rfl | ⟨hx, hne⟩)
     ·exact ⟨j, by rw [Array.size_modify]; exact hjl, by rw [Array.getElem_modify, if_pos rfl, ej]⟩
     ·obtain ⟨i, hi, rfl⟩ := List.mem_iff_getElem.1 hx
      refine ⟨i, by rw [Array.size_modify]; simpa using hi, ?_⟩
      rw [Array.getElem_modify, if_neg]
      ·simp
      ·rintro rfl
       exact hne (by rw [Array.getElem_toList, ej, g3])
   refine ⟨es.modify j fun x => { x with key := k, val := v }, clk, by simp [hlt], ?_, ?_, by rw [Array.size_modify]; omega, fun k' v' hk' => ?_⟩
   ·exact MapKept.stamped_modify h2 j _ (fun _ _ => rfl) (fun x _ hx => by
     rw [hj] at hx
     simp only [Option.some.injEq] at hx
     subst hx
     exact g3.symm)
   ·intro x hx
    rcases (hmem x).1 hx with rfl | ⟨hx, _⟩
    ·exact hk
    ·exact h3 x hx
   ·by_cases hkk' : k' = k
    ·subst hkk'
     rw [ht.at_]
     constructor
     ·intro e'
      simp only [Option.some.injEq] at e'
      exact ⟨_, (hmem _).2 (.inl rfl), rfl, e'⟩
     ·rintro ⟨x, hx, e1, e2⟩
      rcases (hmem x).1 hx with rfl | ⟨_, hne⟩
      ·rw [← e2]
      ·exact absurd e1 hne
    ·rw [ht.off k' hk' hkk', h4 k' v' hk']
     constructor
     ·rintro ⟨x, hx, e1, e2⟩
      exact ⟨x, (hmem x).2 (.inr ⟨hx, by rw [e1]; exact hkk'⟩), e1, e2⟩
     ·rintro ⟨x, hx, e1, e2⟩
      rcases (hmem x).1 hx with rfl | ⟨hx, _⟩
      ·exact absurd e1.symm hkk'
      ·exact ⟨x, hx, e1, e2⟩
end
section
open Go.RowKit
theorem And_any (v1 v2 : Value) (r s : Rg) (n m : Nat) (w : World) (h1 : SeesG w v1 r) (h2 : SeesG w v2 s) (hr : r.ok n) (hs : s.ok m) (hnm : n + (n + m) ≤ 100000) :
  Calls Tryz.prog 88 #[v1, v2] w fun e w' => ∃ v, e = .returned v ∧ SeesG w' v (andR r s) ∧ Old w w' := by
 have H := Lib.hid (And.intro h1 (And.intro h2 (And.intro hr (And.intro hs hnm))))
 obtain ⟨p0, n0, c0, p1, n1, c1, p2, n2, c2, rfl, _⟩ := h1
 obtain ⟨q0, m0, d0, q1, m1, d1, q2, m2, d2, rfl, _⟩ := h2
 clear hr hs hnm
 obtain ⟨W1, hW1⟩ : ∃ W1, ((w.alloc (.cells #[.slice p0 n0 c0, .slice p1 n1 c1, .slice p2 n2 c2, .bool r.odd] 102)).alloc (.cells #[.slice q0 m0 d0, .slice q1 m1 d1, .slice q2 m2 d2, .bool s.odd] 102)).alloc (.cells #[.slice none 0 0, .slice none 0 0, .slice none 0 0, .bool false] 102) = W1 := ⟨_, rfl⟩
 have o1 : Old w W1 := by rw [← hW1]; exact (((Keeps.refl _ _).alloc _).alloc _).alloc _
 obtain ⟨b1, b2, b3, z1⟩ := three_blocks w (.cells #[.slice p0 n0 c0, .slice p1 n1 c1, .slice p2 n2 c2, .bool r.odd] 102) (.cells #[.slice q0 m0 d0, .slice q1 m1 d1, .slice q2 m2 d2, .bool s.odd] 102) (.cells #[.slice none 0 0, .slice none 0 0, .slice none 0 0, .bool false] 102)
 rw [hW1] at b1 b2 b3 z1
 have O1 := Lib.hid (And.intro o1 b3)
 have rd : RB w.heap.size (w.heap.size + 1) #[.slice p0 n0 c0, .slice p1 n1 c1, .slice p2 n2 c2, .bool r.odd] #[.slice q0 m0 d0, .slice q1 m1 d1, .slice q2 m2 d2, .bool s.odd] W1.drew := ⟨b1, b2⟩
 clear o1 b1 b2 b3 z1
 go_enter Tryz.func88, Tryz.ntmps88
 go_upto_region 1 with fail
 clear hW1
 refine wp_region_g (S := RB w.heap.size (w.heap.size + 1) #[.slice p0 n0 c0, .slice p1 n1 c1, .slice p2 n2 c2, .bool r.odd] #[.slice q0 m0 d0, .slice q1 m1 d1, .slice q2 m2 d2, .bool s.odd]) (M := [0, 1, 2, 3, 4, 5]) (by kernel_rfl) ?_
 refine tkG (i := 0) (v := ?vt0) ?yt0 rd ?rt0
 case yt0 => (intro W hSw; obtain ⟨g1, g2⟩ := hSw; have q3 := blk4 g1; have q4 := blk4 g2; go_simp; try with_reducible rfl)
 try simp only [Act.put, List.setIfInBounds_toArray, List.set_cons_zero, List.set_cons_succ]
 refine tkG (i := 1) (v := ?vt1) ?yt1 rd ?rt1
 case yt1 => (intro W hSw; obtain ⟨g1, g2⟩ := hSw; have q3 := blk4 g1; have q4 := blk4 g2; go_simp; try with_reducible rfl)
 try simp only [Act.put, List.setIfInBounds_toArray, List.set_cons_zero, List.set_cons_succ]
 refine tkG (i := 2) (v := ?vt2) ?yt2 rd ?rt2
 case yt2 => (intro W hSw; obtain ⟨g1, g2⟩ := hSw; have q3 := blk4 g1; have q4 := blk4 g2; go_simp; try with_reducible rfl)
 try simp only [Act.put, List.setIfInBounds_toArray, List.set_cons_zero, List.set_cons_succ]
 refine wpAnyG_onlyL (i := 3) (o := _) (by kernel_rfl) rfl (fun K hK => ?_)
 go_simp
 refine (Minus_any _ _ r s n m _ ((H.out.1.old O1.out.1).old (Keeps.refl _ _).drew) ((H.out.2.1.old O1.out.1).old (Keeps.refl _ _).drew) H.out.2.2.1 H.out.2.2.2.1 (by have := H.out.2.2.2.2; omega)).mono ?_
 rintro e w4 ⟨v4, rfl, g4, k4⟩
 have hD4 := rd.to k4
 have T := Lib.hid (And.intro g4 ((Keeps.refl (fun _ => False) W1).drew.trans k4))
 obtain ⟨p4, m4, d4, p5, m5, d5, p6, m6, d6, rfl, _⟩ := g4
 clear k4 rd
 go_wp2_with fail
 refine hK.out _ _ (fun _ => hD4) ?_
 clear hK K
 try simp only [Act.put, List.setIfInBounds_toArray, List.set_cons_zero, List.set_cons_succ]
 refine wpAnyG_onlyL (i := 4) (o := _) (by kernel_rfl) rfl (fun K hK => ?_)
 go_simp
 refine (Minus_any _ _ r (minusR r s) n (n + m) _ (H.out.1.old (O1.out.1.trans T.out.2)) T.out.1 H.out.2.2.1 (minusR_ok H.out.2.2.1 H.out.2.2.2.1) H.out.2.2.2.2).mono ?_
 rintro e w5 ⟨v5, rfl, g5, k5⟩
 have hD5 := hD4.to k5
 have U := Lib.hid (And.intro g5 (T.out.2.trans k5))
 obtain ⟨p7, m7, d7, p8, m8, d8, p9, m9, d9, rfl, SS⟩ := g5
 clear k5 hD4
 have rb := (U.out.2.block _ (lt_of_heap O1.out.2) (fun f => f)).trans O1.out.2
 have E := Lib.hid (And.intro rb SS)
 have q8 := blk4 rb
 clear rb SS
 go_wp2_with fail
 refine hK.out _ _ (fun _ => hD5) ?_
 clear hK K
 try simp only [Act.put, List.setIfInBounds_toArray, List.set_cons_zero, List.set_cons_succ]
 refine wpAnyG_onlyL (i := 5) (o := _) (by kernel_rfl) rfl (fun K hK => ?_)
 go_simp
 have k4 := keep44 w5 (w.heap.size + 1 + 1) (.slice p7 m7 d7) (.slice p8 m8 d8) (.slice p9 m9 d9) (.bool (minusR r (minusR r s)).odd)
 have F := blk4 (put4r E.out.1 (.slice p7 m7 d7) (.slice p8 m8 d8) (.slice p9 m9 d9) (.bool (minusR r (minusR r s)).odd))
 refine hK.out _ _ (fun _ => ⟨(k4.block _ (lt_of_heap hD5.1) (by omega)).trans hD5.1, (k4.block _ (lt_of_heap hD5.2) (by omega)).trans hD5.2⟩) ?_
 clear hK K
 try simp only [Act.put, List.setIfInBounds_toArray, List.set_cons_zero, List.set_cons_succ]
 refine wpAnyG_done (by kernel_rfl) ?_ _
 go_simp
 clear q8
 obtain ⟨W9, hW9⟩ : ∃ W9, (((w5.setCell ⟨w.heap.size + 1 + 1, 0, none⟩ (.slice p7 m7 d7)).setCell ⟨w.heap.size + 1 + 1, 1, none⟩ (.slice p8 m8 d8)).setCell ⟨w.heap.size + 1 + 1, 2, none⟩ (.slice p9 m9 d9)).setCell ⟨w.heap.size + 1 + 1, 3, none⟩ (.bool (minusR r (minusR r s)).odd) = W9 := ⟨_, rfl⟩
 rw [hW9] at k4 F ⊢
 have KF := Lib.hid k4
 have SS := E.out.2
 go_wp2_with fail
 refine bodyPost_ret (v := .agg #[.slice p7 m7 d7, .slice p8 m8 d8, .slice p9 m9 d9, .bool (minusR r (minusR r s)).odd]) (by simp [results, Tryz.results88, go_sem, F]) rfl ⟨_, rfl, ⟨_, _, _, _, _, _, _, _, _, rfl, ?_, ?_, ?_⟩, ?_⟩
 ·exact SS.1.keepsN k4 (fun hl b e f => reg_ne E.out.1 SS.1 hl b e f)
 ·exact SS.2.1.keepsN k4 (fun hl b e f => reg_ne E.out.1 SS.2.1 hl b e f)
 ·exact SS.2.2.keepsN k4 (fun hl b e f => reg_ne E.out.1 SS.2.2 hl b e f)
 ·exact (O1.out.1.trans U.out.2).then k4 (fun i hi e => absurd (show i = w.heap.size + 1 + 1 from e) (by omega))
end
section
open Go.RowKit
theorem Within_any (v1 v2 : Value) (r s : Rg) (n m : Nat) (w : World) (h1 : SeesG w v1 r) (h2 : SeesG w v2 s) (hr : r.ok n) (hs : s.ok m) (hnm : n + m ≤ 100000) :
  Calls Tryz.prog 43 #[v1, v2] w fun e w' => e = .returned (.bool (emptyR (minusR r s))) ∧ Old w w' := by
 have H := Lib.hid (And.intro h1 (And.intro h2 (And.intro hr (And.intro hs hnm))))
 obtain ⟨p0, n0, c0, p1, n1, c1, p2, n2, c2, rfl, _⟩ := h1
 obtain ⟨q0, m0, d0, q1, m1, d1, q2, m2, d2, rfl, _⟩ := h2
 clear hr hs hnm
 go_enter Tryz.func43, Tryz.ntmps43
 go_wp2_with fail
 have o2 : Old w ((w.alloc (.cells #[.slice p0 n0 c0, .slice p1 n1 c1, .slice p2 n2 c2, .bool r.odd] 102)).alloc (.cells #[.slice q0 m0 d0, .slice q1 m1 d1, .slice q2 m2 d2, .bool s.odd] 102)) := ((Keeps.refl _ _).alloc _).alloc _
 refine (Minus_any _ _ r s n m _ (H.out.1.old o2) (H.out.2.1.old o2) H.out.2.2.1 H.out.2.2.2.1 H.out.2.2.2.2).mono ?_
 rintro e w4 ⟨v4, rfl, g4, k4⟩
 have T := Lib.hid (And.intro g4 (o2.trans k4))
 obtain ⟨p4, m4, d4, p5, m5, d5, p6, m6, d6, rfl, _⟩ := g4
 clear k4 o2
 go_wp2_with fail
 refine (empty_any _ _ _ T.out.1).mono ?_
 rintro e w5 ⟨rfl, k5⟩
 have U := Lib.hid (T.out.2.trans k5)
 clear k5
 go_wp2_with fail
 go_ret
 exact ⟨rfl, U.out⟩
end
section
open Go.RowKit
def MA (bx : Nat) (j : Nat) (W : World) : Prop :=
 ∃ p0 n0 c0 p1 n1 c1 p2 n2 c2, W.heap[bx]? = some (.cells #[.slice p0 n0 c0, .slice p1 n1 c1, .slice p2 n2 c2, .bool true] 102 (0, 0)) ∧
  SeesR W 4 spanL (.slice p0 n0 c0) (if 1 ≤ j then allR.a else []) ∧ SeesR W 4 spanL (.slice p1 n1 c1) (if 2 ≤ j then allR.b else []) ∧ SeesR W 4 spanL (.slice p2 n2 c2) (if 3 ≤ j then allR.c else [])
theorem MA.to {bx : Nat} {j : Nat} {W W' : World} (h : MA bx j W) (k : Old W W') : MA bx j W' := by
 obtain ⟨p0, n0, c0, p1, n1, c1, p2, n2, c2, e, h1, h2, h3⟩ := h
 exact ⟨p0, n0, c0, p1, n1, c1, p2, n2, c2, (k.block _ (lt_of_heap e) (fun f => f)).trans e, h1.old k, h2.old k, h3.old k⟩
theorem MA.put0 {bx : Nat} {W : World} (h : MA bx 0 W) {p : Option Addr} {n c : Nat} (hv : SeesR W 4 spanL (.slice p n c) allR.a) : MA bx 1 (W.setCell ⟨bx, 0, none⟩ (.slice p n c)) := by
 obtain ⟨p0, n0, c0, p1, n1, c1, p2, n2, c2, e, h1, h2, h3⟩ := h
 have e1 := heap_setCell_same W bx 0 _ _ (.slice p n c) e
 exact ⟨p, n, c, p1, n1, c1, p2, n2, c2, by simpa using e1, hv.put_reg e 0 _, h2.put_reg e 0 _, h3.put_reg e 0 _⟩
theorem MA.put1 {bx : Nat} {W : World} (h : MA bx 1 W) {p : Option Addr} {n c : Nat} (hv : SeesR W 4 spanL (.slice p n c) allR.b) : MA bx 2 (W.setCell ⟨bx, 1, none⟩ (.slice p n c)) := by
 obtain ⟨p0, n0, c0, p1, n1, c1, p2, n2, c2, e, h1, h2, h3⟩ := h
 have e1 := heap_setCell_same W bx 1 _ _ (.slice p n c) e
 exact ⟨p0, n0, c0, p, n, c, p2, n2, c2, by simpa using e1, h1.put_reg e 1 _, hv.put_reg e 1 _, h3.put_reg e 1 _⟩
theorem MA.put2 {bx : Nat} {W : World} (h : MA bx 2 W) {p : Option Addr} {n c : Nat} (hv : SeesR W 4 spanL (.slice p n c) allR.c) : MA bx 3 (W.setCell ⟨bx, 2, none⟩ (.slice p n c)) := by
 obtain ⟨p0, n0, c0, p1, n1, c1, p2, n2, c2, e, h1, h2, h3⟩ := h
 have e1 := heap_setCell_same W bx 2 _ _ (.slice p n c) e
 exact ⟨p0, n0, c0, p1, n1, c1, p, n, c, by simpa using e1, h1.put_reg e 2 _, h2.put_reg e 2 _, hv.put_reg e 2 _⟩
theorem All_any (w : World) : Calls Tryz.prog 86 #[] w fun e w' => ∃ v, e = .returned v ∧ SeesG w' v allR ∧ Old w w' := by
 obtain ⟨W1, hW1⟩ : ∃ W1, (w.alloc (.cells #[.slice none 0 0, .slice none 0 0, .slice none 0 0, .bool false] 102)).alloc (.cells #[.slice none 0 0, .slice none 0 0, .slice none 0 0, .bool true] 102) = W1 := ⟨_, rfl⟩
 have o1 : Old w W1 := by rw [← hW1]; exact ((Keeps.refl _ _).alloc _).alloc _
 obtain ⟨b1, b2⟩ := two_blocks w (.cells #[.slice none 0 0, .slice none 0 0, .slice none 0 0, .bool false] 102) (.cells #[.slice none 0 0, .slice none 0 0, .slice none 0 0, .bool true] 102)
 rw [hW1] at b1 b2
 go_enter Tryz.func86, Tryz.ntmps86
 go_upto_region 2 with fail
 obtain ⟨bx, hbx⟩ : ∃ bx, w.heap.size + 1 = bx := ⟨_, rfl⟩
 rw [hbx] at b2 ⊢
 have N : ∀ W, SeesR W 4 spanL (.slice none 0 0) [] := fun W => SeesR.nil _
 have M := Lib.hid (And.intro (show MA bx 0 W1 from ⟨_, _, _, _, _, _, _, _, _, b2, N _, N _, N _⟩) (And.intro o1 (And.intro b1 hbx)))
 clear b1 b2 o1 hbx hW1 N
 go_wp2_with fail
 go_loopw [4] (fun v4 wr => ∃ j : Nat, j ≤ 3 ∧ v4 = .int .i64 j ∧ MA bx j wr ∧ Keeps (fun k => k = bx) W1 wr) (fun v4 _ => 3 - (intOf v4).toNat)
 case atStart => exact ⟨0, by omega, rfl, M.out.1, Keeps.refl _ _⟩
 case round =>
  obtain ⟨wq, hwq⟩ : ∃ wq : World, wq = wr := ⟨_, rfl⟩
  subst hwq
  obtain ⟨j, hj, rfl, hm, hk⟩ := hrel
  rcases (show j = 0 ∨ j = 1 ∨ j = 2 ∨ j = 3 by omega) with rfl | rfl | rfl | rfl
  ·have FC := Lib.hid (fun W => first_any_d 1 W)
   simp only [Cut.cells] at FC
   have KM := Lib.hid (And.intro hm hk)
   clear hm hk
   go_wp2_with fail
   refine (FC.out _).mono ?_
   rintro e w4 ⟨rfl, k4⟩
   have T4 := Lib.hid (And.intro (KM.out.1.to k4) (KM.out.2.then k4 (fun _ _ f => f.elim)))
   clear k4
   go_wp2_with fail
   refine (end_any _).mono ?_
   rintro e w5 ⟨rfl, k5⟩
   have T5 := Lib.hid (And.intro (T4.out.1.to k5) (T4.out.2.then k5 (fun _ _ f => f.elim)))
   clear k5
   have SN := Lib.hid (SeesR.new (k := 4) (enc := spanL) w5 192 (0, 0) [(((firstC 1), endC) : Span)] #[.string (firstC 1).at_, .bool (firstC 1).e, .string ⟨#[]⟩, .bool true] (by simp [spanL, endC]) (fun _ => rfl) (by unfold maxLen; simp))
   have T6 := Lib.hid (And.intro (T5.out.1.to ((Keeps.refl _ _).alloc (.cells #[.string (firstC 1).at_, .bool (firstC 1).e, .string ⟨#[]⟩, .bool true] 192))) (T5.out.2.alloc (.cells #[.string (firstC 1).at_, .bool (firstC 1).e, .string ⟨#[]⟩, .bool true] 192)))
   obtain ⟨x1, x2, x3, x4, x5, x6, x7, x8, x9, e9, _⟩ := T6.out.1
   have q9 := blk4 e9
   clear e9
   go_wp2_with fail
   go_roundw
   case rel => exact ⟨1, by omega, by go_num, T6.out.1.put0 SN.out, T6.out.2.setCell (fun _ => rfl) _⟩
   case measure => simp [intOf]
  ·have FC := Lib.hid (fun W => first_any_d 2 W)
   simp only [Cut.cells] at FC
   have KM := Lib.hid (And.intro hm hk)
   clear hm hk
   go_wp2_with fail
   refine (FC.out _).mono ?_
   rintro e w4 ⟨rfl, k4⟩
   have T4 := Lib.hid (And.intro (KM.out.1.to k4) (KM.out.2.then k4 (fun _ _ f => f.elim)))
   clear k4
   go_wp2_with fail
   refine (end_any _).mono ?_
   rintro e w5 ⟨rfl, k5⟩
   have T5 := Lib.hid (And.intro (T4.out.1.to k5) (T4.out.2.then k5 (fun _ _ f => f.elim)))
   clear k5
   have SN := Lib.hid (SeesR.new (k := 4) (enc := spanL) w5 192 (0, 0) [(((firstC 2), endC) : Span)] #[.string (firstC 2).at_, .bool (firstC 2).e, .string ⟨#[]⟩, .bool true] (by simp [spanL, endC]) (fun _ => rfl) (by unfold maxLen; simp))
   have T6 := Lib.hid (And.intro (T5.out.1.to ((Keeps.refl _ _).alloc (.cells #[.string (firstC 2).at_, .bool (firstC 2).e, .string ⟨#[]⟩, .bool true] 192))) (T5.out.2.alloc (.cells #[.string (firstC 2).at_, .bool (firstC 2).e, .string ⟨#[]⟩, .bool true] 192)))
   obtain ⟨x1, x2, x3, x4, x5, x6, x7, x8, x9, e9, _⟩ := T6.out.1
   have q9 := blk4 e9
   clear e9
   go_wp2_with fail
   go_roundw
   case rel => exact ⟨2, by omega, by go_num, T6.out.1.put1 SN.out, T6.out.2.setCell (fun _ => rfl) _⟩
   case measure => simp [intOf]
  ·have FC := Lib.hid (fun W => first_any_d 3 W)
   simp only [Cut.cells] at FC
   have KM := Lib.hid (And.intro hm hk)
   clear hm hk
   go_wp2_with fail
   refine (FC.out _).mono ?_
   rintro e w4 ⟨rfl, k4⟩
   have T4 := Lib.hid (And.intro (KM.out.1.to k4) (KM.out.2.then k4 (fun _ _ f => f.elim)))
   clear k4
   go_wp2_with fail
   refine (end_any _).mono ?_
   rintro e w5 ⟨rfl, k5⟩
   have T5 := Lib.hid (And.intro (T4.out.1.to k5) (T4.out.2.then k5 (fun _ _ f => f.elim)))
   clear k5
   have SN := Lib.hid (SeesR.new (k := 4) (enc := spanL) w5 192 (0, 0) [(((firstC 3), endC) : Span)] #[.string (firstC 3).at_, .bool (firstC 3).e, .string ⟨#[]⟩, .bool true] (by simp [spanL, endC]) (fun _ => rfl) (by unfold maxLen; simp))
   have T6 := Lib.hid (And.intro (T5.out.1.to ((Keeps.refl _ _).alloc (.cells #[.string (firstC 3).at_, .bool (firstC 3).e, .string ⟨#[]⟩, .bool true] 192))) (T5.out.2.alloc (.cells #[.string (firstC 3).at_, .bool (firstC 3).e, .string ⟨#[]⟩, .bool true] 192)))
   obtain ⟨x1, x2, x3, x4, x5, x6, x7, x8, x9, e9, _⟩ := T6.out.1
   have q9 := blk4 e9
   clear e9
   go_wp2_with fail
   go_roundw
   case rel => exact ⟨3, by omega, by go_num, T6.out.1.put2 SN.out, T6.out.2.setCell (fun _ => rfl) _⟩
   case measure => simp [intOf]
  ·have rb := (hk.block _ (lt_of_heap M.out.2.2.1) (by have := M.out.2.2.2; omega)).trans M.out.2.2.1
   have E := Lib.hid (And.intro hm (And.intro hk rb))
   obtain ⟨x1, x2, x3, x4, x5, x6, x7, x8, x9, e9, SS⟩ := hm
   have q9 := blk4 e9
   have q8 := blk4 rb
   clear hk rb e9
   go_wp2_with fail
   have k4 := keep44 wq w.heap.size (.slice x1 x2 x3) (.slice x4 x5 x6) (.slice x7 x8 x9) (.bool true)
   have F := blk4 (put4r E.out.2.2 (.slice x1 x2 x3) (.slice x4 x5 x6) (.slice x7 x8 x9) (.bool true))
   obtain ⟨W9, hW9⟩ : ∃ W9, (((wq.setCell ⟨w.heap.size, 0, none⟩ (.slice x1 x2 x3)).setCell ⟨w.heap.size, 1, none⟩ (.slice x4 x5 x6)).setCell ⟨w.heap.size, 2, none⟩ (.slice x7 x8 x9)).setCell ⟨w.heap.size, 3, none⟩ (.bool true) = W9 := ⟨_, rfl⟩
   rw [hW9] at k4 F ⊢
   refine bodyPost_ret (v := .agg #[.slice x1 x2 x3, .slice x4 x5 x6, .slice x7 x8 x9, .bool true]) (by simp [results, Tryz.results86, go_sem, F]) rfl ⟨_, rfl, ⟨_, _, _, _, _, _, _, _, _, rfl, ?_, ?_, ?_⟩, ?_⟩
   ·exact SS.1.keepsN k4 (fun hl b e f => reg_ne E.out.2.2 SS.1 hl b e f)
   ·exact SS.2.1.keepsN k4 (fun hl b e f => reg_ne E.out.2.2 SS.2.1 hl b e f)
   ·exact SS.2.2.keepsN k4 (fun hl b e f => reg_ne E.out.2.2 SS.2.2 hl b e f)
   ·exact ((M.out.2.1.then E.out.2.1 (fun i hi e => absurd (show i = bx from e) (by have h1 := M.out.2.2.2; omega)))).then k4 (fun i hi e => absurd (show i = w.heap.size from e) (by omega))
end
end Go.Proofs.YtehmlaplodjenaaGreat
